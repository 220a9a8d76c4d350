import Derived.Test.YtoailaifflbomaaEM
set_option linter.all false
set_option linter.unusedSimpArgs false
set_option linter.unusedVariables false
namespace Go.Rs
open Go.Proofs Go.RowKit
set_option maxRecDepth 100000
noncomputable def v73 (l : List Bs) (m : Int) : AV := .int .i64 (heS l m)
noncomputable def o73 (l : List Bs) (m : Int) : Prop := 0 ≤ m ∧ m + l.length ≤ 4611686018427387904
noncomputable def F73 : List AV → QR
  | [.ps .str l, .int .i64 m] => some (some (o73 l m), v73 l m)
  | _ => none
noncomputable def E73 : Ctx := mkE tab [(43, .pure F43)]
noncomputable def O73 : Nat → List DI := ordL [(4, [.q 0, .q 1, .q 2, .q 3, .q 4, .q 5, .q 6])]
theorem a73 (l : List Bs) (m : Int) (hb : BdAs [.ps .str l, .int .i64 m]) (ho : o73 l m) (K : AV → List AV → Prop) (hK : K (v73 l m) []) : abody E73 O73 .ps Try.f73 (Try.f73.body.getD .skip) [.ps .str l, .int .i64 m] K := by
  simp only [BdAs, BdA, BdL, BdC, MX, ndC, shC, itC, stC, opC, chC, nwC, flC, rqC, rsC, enc, List.cons_append, List.nil_append, and_true, true_and] at hb
  unfold o73 at ho
  unfold v73 at hK
  conv => whnf
  repeat' first|((first|refine Cnd.mk (fun h=>?_) (fun h=>?_)|refine Gd.mk (fun h=>?_))<;>(try simp [etas,elDef,-List.getD_eq_getElem?_getD] at h)<;>conv=>whnf)|((first|refine Obl.mk (by first|omega|rfl|exact inK_byte _|(simp only [inK,Int.toNat_natCast,etas,elDef,o43]<;>first|omega|grind)|grind [inK,o43]) ?_|refine OblG.mk (by ((conv=>whnf);(repeat (first|refine Bx.mk ?_|(intro h;(try simp [etas,elDef,-List.getD_eq_getElem?_getD] at h);conv=>whnf)));(first|omega|rfl|exact inK_byte _|(simp only [inK,Int.toNat_natCast,etas,elDef,o43]<;>first|omega|grind)|grind [inK,o43]))) ?_|refine And.intro ?_ ?_)<;>conv=>whnf)|exact True.intro|(intro;conv=>whnf)
  refine aloop_intro (Nat × Int) (fun ⟨i, q⟩ => i ≤ l.length ∧ q = m + i ∧ heS (l.drop i) q = heS l m) (fun ⟨i, q⟩ => l.length - i) (fun ⟨i, q⟩ => [(5, .int .i64 i), (1, .int .i64 q)]) (fun ⟨i, q⟩ => []) [] (0, m) [] [] ?_ ?_ (by exact sgOk_of (by rfl)) ?_
  · first | (simp; done) | (simp; assumption) | (simp only; grind)
  · iterate 2 ((all_goals (conv=>whnf));(repeat' (first|exact trivial|rfl|(refine nilEq ?_;first|rfl|(simp only [*];done)|(simp [*];done)|grind)|apply And.intro|((first|apply intEq|apply boolEq|apply strEq|apply psEq|apply nilEq|apply arrEq);(try simp only [Int.toNat_natCast,etas,elDef]);first | done | omega | grind | (simp only [*]; done) | (simp [*]; done)))));(all_goals ((try simp only [Int.toNat_natCast,etas,elDef]);first | done | omega | grind | (simp only [*]; done) | (simp [*]; done)))
  rintro ⟨i, q⟩ hinv
  dsimp only at hinv
  conv => whnf
  obtain ⟨hi, hq, he⟩ := hinv
  have hat := fun h => heS_at (l := l) (i := i) h q
  repeat' first|((first|refine Cnd.mk (fun h=>?_) (fun h=>?_)|refine Gd.mk (fun h=>?_))<;>(try simp [etas,elDef,-List.getD_eq_getElem?_getD] at h)<;>conv=>whnf)|((first|refine Obl.mk (by first|omega|rfl|exact inK_byte _|(simp only [inK,Int.toNat_natCast,etas,elDef,o43]<;>first|omega|grind)|grind [inK,o43]) ?_|refine OblG.mk (by ((conv=>whnf);(repeat (first|refine Bx.mk ?_|(intro h;(try simp [etas,elDef,-List.getD_eq_getElem?_getD] at h);conv=>whnf)));(first|omega|rfl|exact inK_byte _|(simp only [inK,Int.toNat_natCast,etas,elDef,o43]<;>first|omega|grind)|grind [inK,o43]))) ?_|refine And.intro ?_ ?_)<;>conv=>whnf)|exact True.intro|(intro;conv=>whnf)
  · rw [← he, hat ‹_›, if_neg (of_decide_eq_false h)] at hK; exact hK
  · rw [hat ‹_›, if_pos (of_decide_eq_true h)] at he
    exact ⟨(i + 1, q + 1), [], [], ⟨by omega, by push_cast; omega, he⟩, by simp only; omega, by iterate 2 ((all_goals (conv=>whnf));(repeat' (first|exact trivial|rfl|(refine nilEq ?_;first|rfl|(simp only [*];done)|(simp [*];done)|grind)|apply And.intro|((first|apply intEq|apply boolEq|apply strEq|apply psEq|apply nilEq|apply arrEq);(try simp only [Int.toNat_natCast,etas,elDef]);first | done | omega | grind | (simp only [*]; done) | (simp [*]; done)))));(all_goals ((try simp only [Int.toNat_natCast,etas,elDef]);first | done | omega | grind | (simp only [*]; done) | (simp [*]; done))), (by exact sgOk_of (by rfl))⟩
  · rw [← he, List.drop_of_length_le h, heS] at hK; exact hK
theorem s73 : (CtrOK Try.prog 73 (.pure F73) ∧ Callable Try.prog 73) := by
  refine pure_ok (E := E73) (mkE_cons s43 (mkE_nil tab_ok)) mix (O := O73) (F := F73) Try.func73 rfl (by rfl) (by kernel_rfl) (fun args o v h => ?_) (fun args o v h => ?_) (fun args o v h hbd hp K hK => ?_)
  · unfold F73 at h; split at h <;> cases h; first | trivial | (simp [v73, Scalar, Scalar2, Scalar1, stC, ndC, itC, chC, nwC])
  · unfold F73 at h; split at h <;> cases h; exact Nat.le_of_ble_eq_true rfl
  · unfold F73 at h; split at h
    case h_2 => cases h
    cases h
    exact a73 _ _ (by exact hbd) (hp _ rfl) K hK
theorem heN_eq1 (n : Nd) (k : Int) : heN n k = if n.kind = k then if n.num = k + 1 then if n.text = mkT (k + 1 + 1) then if heS n.names (k + 1 + 1 + 1) < 0 then -1 else heNs n.kids (heS n.names (k + 1 + 1 + 1)) else -1 else -1 else -1 := by
  rw [heN_eq, show k + 1 + 1 + 1 = k + 3 by omega, show k + 1 + 1 = k + 2 by omega]
theorem he_neg {P1 P2 P3 P4 : Prop} [Decidable P1] [Decidable P2] [Decidable P3] [Decidable P4] {a r : Int} (h : ¬ P1 ∨ ¬ P2 ∨ ¬ P3 ∨ P4 ∨ a < 0) : (if (if P1 then if P2 then if P3 then if P4 then -1 else a else -1 else -1 else -1) < 0 then -1 else r) = (-1 : Int) := by
  by_cases h1 : P1 <;> by_cases h2 : P2 <;> by_cases h3 : P3 <;> by_cases h4 : P4 <;> simp_all
theorem he_pos {P1 P2 P3 P4 : Prop} [Decidable P1] [Decidable P2] [Decidable P3] [Decidable P4] {a : Int} (h1 : P1) (h2 : P2) (h3 : P3) (h4 : ¬ P4) : (if P1 then if P2 then if P3 then if P4 then (-1 : Int) else a else -1 else -1 else -1) = a := by
  simp_all
noncomputable def v74 (l : List Nd) (m : Int) : AV := .int .i64 (heNs l m)
noncomputable def o74 (l : List Nd) (m : Int) : Prop := 0 ≤ m ∧ m + totNs l ≤ 4611686018427387904
noncomputable def m74 (l : List Nd) (m : Int) : Nat := SizeOf.sizeOf l
noncomputable def F74 : List AV → QR
  | [.ps .node l, .int .i64 m] => some (some (o74 l m), v74 l m)
  | _ => none
noncomputable def Fk74 (k : Nat) : List AV → QR
  | [.ps .node l, .int .i64 m] => some (some (m74 l m < k ∧ o74 l m), v74 l m)
  | _ => none
noncomputable def E74 (k : Nat) : Ctx := mkE tab [(43, .pure F43), (73, .pure F73), (74, .pure (Fk74 k))]
noncomputable def O74 : Nat → List DI := ordL [(10, [.q 0, .q 1, .q 2, .q 3, .q 4, .q 5, .q 6, .q 7])]
theorem a74 (k : Nat) (l : List Nd) (m : Int) (hm : m74 l m < k + 1) (hb : BdAs [.ps .node l, .int .i64 m]) (ho : o74 l m) (K : AV → List AV → Prop) (hK : K (v74 l m) []) : abody (E74 k) O74 .ps Try.f74 (Try.f74.body.getD .skip) [.ps .node l, .int .i64 m] K := by
  simp only [BdAs, BdA, BdL, BdC, MX, ndC, shC, itC, stC, opC, chC, nwC, flC, rqC, rsC, enc, List.cons_append, List.nil_append, and_true, true_and] at hb
  unfold o74 at ho
  unfold v74 at hK
  unfold m74 at hm
  have hkid : ∀ j, j < l.length → SizeOf.sizeOf (l.getD j default).kids < k := fun j hj => by have := mem_size hj; have := kids_size (l.getD j default); omega
  conv => whnf
  repeat' first|((first|refine Cnd.mk (fun h=>?_) (fun h=>?_)|refine Gd.mk (fun h=>?_))<;>(try simp [etas,elDef,-List.getD_eq_getElem?_getD] at h)<;>conv=>whnf)|((first|refine Obl.mk (by first|omega|rfl|exact inK_byte _|(simp only [inK,Int.toNat_natCast,etas,elDef,m74,o43,o73,o74,m74]<;>first|omega|grind)|grind [inK,m74,o43,o73,o74,m74]) ?_|refine OblG.mk (by ((conv=>whnf);(repeat (first|refine Bx.mk ?_|(intro h;(try simp [etas,elDef,-List.getD_eq_getElem?_getD] at h);conv=>whnf)));(first|omega|rfl|exact inK_byte _|(simp only [inK,Int.toNat_natCast,etas,elDef,m74,o43,o73,o74,m74]<;>first|omega|grind)|grind [inK,m74,o43,o73,o74,m74]))) ?_|refine And.intro ?_ ?_)<;>conv=>whnf)|exact True.intro|(intro;conv=>whnf)
  refine aloop_intro (Nat × Int) (fun ⟨i, q⟩ => i ≤ l.length ∧ 0 ≤ q ∧ q + totNs (l.drop i) = m + totNs l ∧ heNs (l.drop i) q = heNs l m) (fun ⟨i, q⟩ => l.length - i) (fun ⟨i, q⟩ => [(5, .int .i64 i), (1, .int .i64 q)]) (fun ⟨i, q⟩ => []) [] (0, m) [] [] ?_ ?_ (by exact sgOk_of (by rfl)) ?_
  · first | (simp; done) | (simp; assumption) | (simp only; grind)
  · iterate 2 ((all_goals (conv=>whnf));(repeat' (first|exact trivial|rfl|(refine nilEq ?_;first|rfl|(simp only [*];done)|(simp [*];done)|grind)|apply And.intro|((first|apply intEq|apply boolEq|apply strEq|apply psEq|apply nilEq|apply arrEq);(try simp only [Int.toNat_natCast,etas,elDef]);first | done | omega | grind | (simp only [*]; done) | (simp [*]; done)))));(all_goals ((try simp only [Int.toNat_natCast,etas,elDef]);first | done | omega | grind | (simp only [*]; done) | (simp [*]; done)))
  rintro ⟨i, q⟩ hinv
  dsimp only at hinv
  conv => whnf
  obtain ⟨hi, hq0, hq, he⟩ := hinv
  have hat := fun h => heNs_at (l := l) (i := i) h q
  have htt := fun h => totNs_at (l := l) (i := i) h
  have htn := totN_eq (l.getD i default)
  have hen := heN_eq1 (l.getD i default) q
  have hs2 := heS_two (l.getD i default).names (q + 1 + 1 + 1)
  have hk2 := heNs_two (l.getD i default).kids (heS (l.getD i default).names (q + 1 + 1 + 1))
  repeat' first|((first|refine Cnd.mk (fun h=>?_) (fun h=>?_)|refine Gd.mk (fun h=>?_))<;>(try simp [etas,elDef,-List.getD_eq_getElem?_getD] at h)<;>conv=>whnf)|((first|refine Obl.mk (by first|omega|rfl|exact inK_byte _|(simp only [inK,Int.toNat_natCast,etas,elDef,m74,o43,o73,o74,m74]<;>first|omega|grind)|grind [inK,m74,o43,o73,o74,m74]) ?_|refine OblG.mk (by ((conv=>whnf);(repeat (first|refine Bx.mk ?_|(intro h;(try simp [etas,elDef,-List.getD_eq_getElem?_getD] at h);conv=>whnf)));(first|omega|rfl|exact inK_byte _|(simp only [inK,Int.toNat_natCast,etas,elDef,m74,o43,o73,o74,m74]<;>first|omega|grind)|grind [inK,m74,o43,o73,o74,m74]))) ?_|refine And.intro ?_ ?_)<;>conv=>whnf)|exact True.intro|(intro;conv=>whnf)
  · have e : heNs l m = -1 := by
      rw [← he, hat ‹_›, hen]
      exact he_neg (.inl (of_decide_eq_false h))
    rw [e] at hK; exact hK
  · have e : heNs l m = -1 := by
      rw [← he, hat ‹_›, hen]
      exact he_neg (.inr (.inl (of_decide_eq_false h)))
    rw [e] at hK; exact hK
  · have e : heNs l m = -1 := by
      rw [← he, hat ‹_›, hen]
      exact he_neg (.inr (.inr (.inl (of_decide_eq_false h))))
    rw [e] at hK; exact hK
  · have e : heNs l m = -1 := by
      rw [← he, hat ‹_›, hen]
      exact he_neg (.inr (.inr (.inr (.inl (of_decide_eq_true h)))))
    rw [e] at hK; exact hK
  · have e : heNs l m = -1 := by
      rw [← he, hat ‹_›, hen]
      exact he_neg (.inr (.inr (.inr (.inr (of_decide_eq_true h)))))
    rw [e] at hK; exact hK
  · rename_i h0 h1 h2 h3 h4
    rw [he_pos (of_decide_eq_true h1) (of_decide_eq_true h2) (of_decide_eq_true h3) (of_decide_eq_false h4)] at hen
    rw [hat h0, hen, if_neg (of_decide_eq_false h)] at he
    have htt' := htt h0
    have g3 := of_decide_eq_false h4
    have g4 := of_decide_eq_false h
    exact ⟨(i + 1, heNs (l.getD i default).kids (heS (l.getD i default).names (q + 1 + 1 + 1))), [], [], ⟨by omega, by omega, by omega, he⟩, by simp only; omega, by iterate 2 ((all_goals (conv=>whnf));(repeat' (first|exact trivial|rfl|(refine nilEq ?_;first|rfl|(simp only [*];done)|(simp [*];done)|grind)|apply And.intro|((first|apply intEq|apply boolEq|apply strEq|apply psEq|apply nilEq|apply arrEq);(try simp only [Int.toNat_natCast,etas,elDef]);first | done | omega | grind | (simp only [*]; done) | (simp [*]; done)))));(all_goals ((try simp only [Int.toNat_natCast,etas,elDef]);first | done | omega | grind | (simp only [*]; done) | (simp [*]; done))), (by exact sgOk_of (by rfl))⟩
  · rw [← he, List.drop_of_length_le h, heNs] at hK; exact hK
theorem r74 : ∀ k, (CtrOK Try.prog 74 (.pure (Fk74 k)) ∧ Callable Try.prog 74) := by
  intro k
  induction k with
  | zero =>
    exact ⟨⟨fun args o v h => by unfold Fk74 at h; split at h <;> cases h; first | trivial | (simp [v74, Scalar, Scalar2, Scalar1, stC, ndC, itC, chC, nwC]), fun args K h => by
        unfold pureC Fk74 at h; split at h
        · rename_i h1; split at h1 <;> cases h1; exact absurd (h.1 _ rfl).1 (Nat.not_lt_zero _)
        · exact h.elim⟩, callable Try.func74 rfl (by rfl)⟩
  | succ k ih =>
    refine pure_ok (E := E74 k) (mkE_cons s43 (mkE_cons s73 (mkE_cons ih (mkE_nil tab_ok)))) mix (O := O74) (F := (Fk74 (k + 1))) Try.func74 rfl (by rfl) (by kernel_rfl) (fun args o v h => ?_) (fun args o v h => ?_) (fun args o v h hbd hp K hK => ?_)
    · unfold Fk74 at h; split at h <;> cases h; first | trivial | (simp [v74, Scalar, Scalar2, Scalar1, stC, ndC, itC, chC, nwC])
    · unfold Fk74 at h; split at h <;> cases h; exact Nat.le_of_ble_eq_true rfl
    · unfold Fk74 at h; split at h
      case h_2 => cases h
      cases h
      exact a74 k _ _ (hp _ rfl).1 (by exact hbd) (hp _ rfl).2 K hK
theorem s74 : (CtrOK Try.prog 74 (.pure F74) ∧ Callable Try.prog 74) := by
  refine ⟨⟨fun args o v h => ?_, fun args K h => ?_⟩, (r74 0).2⟩
  · unfold F74 at h; split at h <;> cases h; first | trivial | (simp [v74, Scalar, Scalar2, Scalar1, stC, ndC, itC, chC, nwC])
  · unfold pureC F74 at h; split at h
    · rename_i h1; split at h1 <;> cases h1
      exact (r74 (m74 _ _ + 1)).1.2 _ K ⟨fun p hp => by cases hp; exact ⟨Nat.lt_succ_self _, (h.1 _ rfl)⟩, h.2⟩
    · exact h.elim
noncomputable def v39 (n : Nd) (m : Int) : AV := .int .i64 (heNd n m)
noncomputable def o39 (n : Nd) (m : Int) : Prop := 0 ≤ m ∧ m + totNd n ≤ 4611686018427387904
noncomputable def F39 : List AV → QR
  | [.st [.int .i64 n_0, .int .i64 n_1, .str n_2, .ps .str n_3, .ps .node n_4], .int .i64 m] => some (some (o39 ⟨n_0, n_1, n_2, n_3, n_4⟩ m), v39 ⟨n_0, n_1, n_2, n_3, n_4⟩ m)
  | _ => none
noncomputable def E39 : Ctx := mkE tab [(73, .pure F73), (74, .pure F74)]
noncomputable def O39 : Nat → List DI := ordL []
theorem a39 (n : Nd) (m : Int) (hb : BdAs [.st (ndC n), .int .i64 m]) (ho : o39 n m) (K : AV → List AV → Prop) (hK : K (v39 n m) []) : abody E39 O39 .ps Try.f39 (Try.f39.body.getD .skip) [.st (ndC n), .int .i64 m] K := by
  simp only [BdAs, BdA, BdL, BdC, MX, ndC, shC, itC, stC, opC, chC, nwC, flC, rqC, rsC, enc, List.cons_append, List.nil_append, and_true, true_and] at hb
  unfold o39 at ho
  unfold v39 at hK
  have h1 := heS_two n.names m
  have h2 := heNs_two n.kids (heS n.names m)
  have h3 : totNd n = n.names.length + totNs n.kids := rfl
  conv => whnf
  repeat' first|((first|refine Cnd.mk (fun h=>?_) (fun h=>?_)|refine Gd.mk (fun h=>?_))<;>(try simp [etas,elDef,-List.getD_eq_getElem?_getD] at h)<;>conv=>whnf)|((first|refine Obl.mk (by first|omega|rfl|exact inK_byte _|(simp only [inK,Int.toNat_natCast,etas,elDef,o73,o74,m74]<;>first|omega|grind)|grind [inK,o73,o74,m74]) ?_|refine OblG.mk (by ((conv=>whnf);(repeat (first|refine Bx.mk ?_|(intro h;(try simp [etas,elDef,-List.getD_eq_getElem?_getD] at h);conv=>whnf)));(first|omega|rfl|exact inK_byte _|(simp only [inK,Int.toNat_natCast,etas,elDef,o73,o74,m74]<;>first|omega|grind)|grind [inK,o73,o74,m74]))) ?_|refine And.intro ?_ ?_)<;>conv=>whnf)|exact True.intro|(intro;conv=>whnf)
  · have e : heNd n m = -1 := by unfold heNd; rw [if_pos h]
    rw [e] at hK; exact hK
  · have e : heNd n m = -1 := by unfold heNd; rw [if_neg (by omega)]; omega
    rw [e] at hK; exact hK
  · have e : heNd n m = heNs n.kids (heS n.names m) := by unfold heNd; rw [if_neg (by omega)]
    rw [e] at hK; exact hK
theorem s39 : (CtrOK Try.prog 39 (.pure F39) ∧ Callable Try.prog 39) := by
  refine pure_ok (E := E39) (mkE_cons s73 (mkE_cons s74 (mkE_nil tab_ok))) mix (O := O39) (F := F39) Try.func39 rfl (by rfl) (by kernel_rfl) (fun args o v h => ?_) (fun args o v h => ?_) (fun args o v h hbd hp K hK => ?_)
  · unfold F39 at h; split at h <;> cases h; first | trivial | (simp [v39, Scalar, Scalar2, Scalar1, stC, ndC, itC, chC, nwC])
  · unfold F39 at h; split at h <;> cases h; exact Nat.le_of_ble_eq_true rfl
  · unfold F39 at h; split at h
    case h_2 => cases h
    cases h
    exact a39 ⟨_, _, _, _, _⟩ _ (by exact hbd) (hp _ rfl) K hK
end Go.Rs

