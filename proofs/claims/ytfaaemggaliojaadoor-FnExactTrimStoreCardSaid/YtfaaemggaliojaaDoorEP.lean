import Derived.Test.YtfaaemggaliojaaDoorEM
set_option linter.all false
set_option linter.unusedSimpArgs false
set_option linter.unusedVariables false
namespace Go.Rs
open Go.Proofs Go.RowKit
set_option maxRecDepth 100000
noncomputable def v17 (l : List Bs) (m : Int) : AV := .int .i64 (heS l m)
noncomputable def o17 (l : List Bs) (m : Int) : Prop := 0 ≤ m ∧ m + l.length ≤ 4611686018427387904
noncomputable def F17 : List AV → QR
  | [.ps .str l, .int .i64 m] => some (some (o17 l m), v17 l m)
  | _ => none
noncomputable def E17 : Ctx := mkE tab [(32, .pure F32)]
noncomputable def O17 : Nat → List DI := ordL [(4, [.q 0, .q 1, .q 2, .q 3, .q 4, .q 5, .q 6])]
theorem a17 (l : List Bs) (m : Int) (hb : BdAs [.ps .str l, .int .i64 m]) (ho : o17 l m) (K : AV → List AV → Prop) (hK : K (v17 l m) []) : abody E17 O17 .ps Tryd.f17 (Tryd.f17.body.getD .skip) [.ps .str l, .int .i64 m] K := by
  simp only [BdAs, BdA, BdL, BdC, MX, ndC, shC, itC, stC, opC, chC, nwC, flC, rqC, rsC, enc, List.cons_append, List.nil_append, and_true, true_and] at hb
  unfold o17 at ho
  unfold v17 at hK
  conv => whnf
  repeat' first|((first|refine Cnd.mk (fun h=>?_) (fun h=>?_)|refine Gd.mk (fun h=>?_))<;>(try simp [etas,elDef,-List.getD_eq_getElem?_getD] at h)<;>conv=>whnf)|((first|refine Obl.mk (by first|omega|rfl|exact inK_byte _|(simp only [inK,Int.toNat_natCast,etas,elDef,o32]<;>first|omega|grind)|grind [inK,o32]) ?_|refine OblG.mk (by ((conv=>whnf);(repeat (first|refine Bx.mk ?_|(intro h;(try simp [etas,elDef,-List.getD_eq_getElem?_getD] at h);conv=>whnf)));(first|omega|rfl|exact inK_byte _|(simp only [inK,Int.toNat_natCast,etas,elDef,o32]<;>first|omega|grind)|grind [inK,o32]))) ?_|refine And.intro ?_ ?_)<;>conv=>whnf)|exact True.intro|(intro;conv=>whnf)
  refine aloop_intro (Nat × Int) (fun ⟨i, q⟩ => i ≤ l.length ∧ q = m + i ∧ heS (l.drop i) q = heS l m) (fun ⟨i, q⟩ => l.length - i) (fun ⟨i, q⟩ => [(5, .int .i64 i), (1, .int .i64 q)]) (fun ⟨i, q⟩ => []) [] (0, m) [] [] ?_ ?_ (by exact sgOk_of (by rfl)) ?_
  · first | (simp; done) | (simp; assumption) | (simp only; grind)
  · iterate 2 ((all_goals (conv=>whnf));(repeat' (first|exact trivial|rfl|(refine nilEq ?_;first|rfl|(simp only [*];done)|(simp [*];done)|grind)|apply And.intro|((first|apply intEq|apply boolEq|apply strEq|apply psEq|apply nilEq|apply arrEq);(try simp only [Int.toNat_natCast,etas,elDef]);first | done | omega | grind | (simp only [*]; done) | (simp [*]; done)))));(all_goals ((try simp only [Int.toNat_natCast,etas,elDef]);first | done | omega | grind | (simp only [*]; done) | (simp [*]; done)))
  rintro ⟨i, q⟩ hinv
  dsimp only at hinv
  conv => whnf
  obtain ⟨hi, hq, he⟩ := hinv
  have hat := fun h => heS_at (l := l) (i := i) h q
  repeat' first|((first|refine Cnd.mk (fun h=>?_) (fun h=>?_)|refine Gd.mk (fun h=>?_))<;>(try simp [etas,elDef,-List.getD_eq_getElem?_getD] at h)<;>conv=>whnf)|((first|refine Obl.mk (by first|omega|rfl|exact inK_byte _|(simp only [inK,Int.toNat_natCast,etas,elDef,o32]<;>first|omega|grind)|grind [inK,o32]) ?_|refine OblG.mk (by ((conv=>whnf);(repeat (first|refine Bx.mk ?_|(intro h;(try simp [etas,elDef,-List.getD_eq_getElem?_getD] at h);conv=>whnf)));(first|omega|rfl|exact inK_byte _|(simp only [inK,Int.toNat_natCast,etas,elDef,o32]<;>first|omega|grind)|grind [inK,o32]))) ?_|refine And.intro ?_ ?_)<;>conv=>whnf)|exact True.intro|(intro;conv=>whnf)
  · rw [← he, hat ‹_›, if_neg (of_decide_eq_false h)] at hK; exact hK
  · rw [hat ‹_›, if_pos (of_decide_eq_true h)] at he
    exact ⟨(i + 1, q + 1), [], [], ⟨by omega, by push_cast; omega, he⟩, by simp only; omega, by iterate 2 ((all_goals (conv=>whnf));(repeat' (first|exact trivial|rfl|(refine nilEq ?_;first|rfl|(simp only [*];done)|(simp [*];done)|grind)|apply And.intro|((first|apply intEq|apply boolEq|apply strEq|apply psEq|apply nilEq|apply arrEq);(try simp only [Int.toNat_natCast,etas,elDef]);first | done | omega | grind | (simp only [*]; done) | (simp [*]; done)))));(all_goals ((try simp only [Int.toNat_natCast,etas,elDef]);first | done | omega | grind | (simp only [*]; done) | (simp [*]; done))), (by exact sgOk_of (by rfl))⟩
  · rw [← he, List.drop_of_length_le h, heS] at hK; exact hK
theorem s17 : (CtrOK Tryd.prog 17 (.pure F17) ∧ Callable Tryd.prog 17) := by
  refine pure_ok (E := E17) (mkE_cons s32 (mkE_nil tab_ok)) mix (O := O17) (F := F17) Tryd.func17 rfl (by rfl) (by kernel_rfl) (fun args o v h => ?_) (fun args o v h => ?_) (fun args o v h hbd hp K hK => ?_)
  · unfold F17 at h; split at h <;> cases h; first | trivial | (simp [v17, Scalar, Scalar2, Scalar1, stC, ndC, itC, chC, nwC])
  · unfold F17 at h; split at h <;> cases h; exact Nat.le_of_ble_eq_true rfl
  · unfold F17 at h; split at h
    case h_2 => cases h
    cases h
    exact a17 _ _ (by exact hbd) (hp _ rfl) K hK
theorem heN_eq1 (n : Nd) (k : Int) : heN n k = if n.kind = k then if n.num = k + 1 then if n.text = mkT (k + 1 + 1) then if heS n.names (k + 1 + 1 + 1) < 0 then -1 else heNs n.kids (heS n.names (k + 1 + 1 + 1)) else -1 else -1 else -1 := by
  rw [heN_eq, show k + 1 + 1 + 1 = k + 3 by omega, show k + 1 + 1 = k + 2 by omega]
theorem he_neg {P1 P2 P3 P4 : Prop} [Decidable P1] [Decidable P2] [Decidable P3] [Decidable P4] {a r : Int} (h : ¬ P1 ∨ ¬ P2 ∨ ¬ P3 ∨ P4 ∨ a < 0) : (if (if P1 then if P2 then if P3 then if P4 then -1 else a else -1 else -1 else -1) < 0 then -1 else r) = (-1 : Int) := by
  by_cases h1 : P1 <;> by_cases h2 : P2 <;> by_cases h3 : P3 <;> by_cases h4 : P4 <;> simp_all
theorem he_pos {P1 P2 P3 P4 : Prop} [Decidable P1] [Decidable P2] [Decidable P3] [Decidable P4] {a : Int} (h1 : P1) (h2 : P2) (h3 : P3) (h4 : ¬ P4) : (if P1 then if P2 then if P3 then if P4 then (-1 : Int) else a else -1 else -1 else -1) = a := by
  simp_all
noncomputable def v66 (l : List Nd) (m : Int) : AV := .int .i64 (heNs l m)
noncomputable def o66 (l : List Nd) (m : Int) : Prop := 0 ≤ m ∧ m + totNs l ≤ 4611686018427387904
noncomputable def m66 (l : List Nd) (m : Int) : Nat := SizeOf.sizeOf l
noncomputable def F66 : List AV → QR
  | [.ps .node l, .int .i64 m] => some (some (o66 l m), v66 l m)
  | _ => none
noncomputable def Fk66 (k : Nat) : List AV → QR
  | [.ps .node l, .int .i64 m] => some (some (m66 l m < k ∧ o66 l m), v66 l m)
  | _ => none
noncomputable def E66 (k : Nat) : Ctx := mkE tab [(17, .pure F17), (32, .pure F32), (66, .pure (Fk66 k))]
noncomputable def O66 : Nat → List DI := ordL [(10, [.q 0, .q 1, .q 2, .q 3, .q 4, .q 5, .q 6, .q 7])]
theorem a66 (k : Nat) (l : List Nd) (m : Int) (hm : m66 l m < k + 1) (hb : BdAs [.ps .node l, .int .i64 m]) (ho : o66 l m) (K : AV → List AV → Prop) (hK : K (v66 l m) []) : abody (E66 k) O66 .ps Tryd.f66 (Tryd.f66.body.getD .skip) [.ps .node l, .int .i64 m] K := by
  simp only [BdAs, BdA, BdL, BdC, MX, ndC, shC, itC, stC, opC, chC, nwC, flC, rqC, rsC, enc, List.cons_append, List.nil_append, and_true, true_and] at hb
  unfold o66 at ho
  unfold v66 at hK
  unfold m66 at hm
  have hkid : ∀ j, j < l.length → SizeOf.sizeOf (l.getD j default).kids < k := fun j hj => by have := mem_size hj; have := kids_size (l.getD j default); omega
  conv => whnf
  repeat' first|((first|refine Cnd.mk (fun h=>?_) (fun h=>?_)|refine Gd.mk (fun h=>?_))<;>(try simp [etas,elDef,-List.getD_eq_getElem?_getD] at h)<;>conv=>whnf)|((first|refine Obl.mk (by first|omega|rfl|exact inK_byte _|(simp only [inK,Int.toNat_natCast,etas,elDef,m66,o17,o32,o66,m66]<;>first|omega|grind)|grind [inK,m66,o17,o32,o66,m66]) ?_|refine OblG.mk (by ((conv=>whnf);(repeat (first|refine Bx.mk ?_|(intro h;(try simp [etas,elDef,-List.getD_eq_getElem?_getD] at h);conv=>whnf)));(first|omega|rfl|exact inK_byte _|(simp only [inK,Int.toNat_natCast,etas,elDef,m66,o17,o32,o66,m66]<;>first|omega|grind)|grind [inK,m66,o17,o32,o66,m66]))) ?_|refine And.intro ?_ ?_)<;>conv=>whnf)|exact True.intro|(intro;conv=>whnf)
  refine aloop_intro (Nat × Int) (fun ⟨i, q⟩ => i ≤ l.length ∧ 0 ≤ q ∧ q + totNs (l.drop i) = m + totNs l ∧ heNs (l.drop i) q = heNs l m) (fun ⟨i, q⟩ => l.length - i) (fun ⟨i, q⟩ => [(5, .int .i64 i), (1, .int .i64 q)]) (fun ⟨i, q⟩ => []) [] (0, m) [] [] ?_ ?_ (by exact sgOk_of (by rfl)) ?_
  · first | (simp; done) | (simp; assumption) | (simp only; grind)
  · iterate 2 ((all_goals (conv=>whnf));(repeat' (first|exact trivial|rfl|(refine nilEq ?_;first|rfl|(simp only [*];done)|(simp [*];done)|grind)|apply And.intro|((first|apply intEq|apply boolEq|apply strEq|apply psEq|apply nilEq|apply arrEq);(try simp only [Int.toNat_natCast,etas,elDef]);first | done | omega | grind | (simp only [*]; done) | (simp [*]; done)))));(all_goals ((try simp only [Int.toNat_natCast,etas,elDef]);first | done | omega | grind | (simp only [*]; done) | (simp [*]; done)))
  rintro ⟨i, q⟩ hinv
  dsimp only at hinv
  conv => whnf
  obtain ⟨hi, hq0, hq, he⟩ := hinv
  have hat := fun h => heNs_at (l := l) (i := i) h q
  have htt := fun h => totNs_at (l := l) (i := i) h
  have htn := totN_eq (l.getD i default)
  have hen := heN_eq1 (l.getD i default) q
  have hs2 := heS_two (l.getD i default).names (q + 1 + 1 + 1)
  have hk2 := heNs_two (l.getD i default).kids (heS (l.getD i default).names (q + 1 + 1 + 1))
  repeat' first|((first|refine Cnd.mk (fun h=>?_) (fun h=>?_)|refine Gd.mk (fun h=>?_))<;>(try simp [etas,elDef,-List.getD_eq_getElem?_getD] at h)<;>conv=>whnf)|((first|refine Obl.mk (by first|omega|rfl|exact inK_byte _|(simp only [inK,Int.toNat_natCast,etas,elDef,m66,o17,o32,o66,m66]<;>first|omega|grind)|grind [inK,m66,o17,o32,o66,m66]) ?_|refine OblG.mk (by ((conv=>whnf);(repeat (first|refine Bx.mk ?_|(intro h;(try simp [etas,elDef,-List.getD_eq_getElem?_getD] at h);conv=>whnf)));(first|omega|rfl|exact inK_byte _|(simp only [inK,Int.toNat_natCast,etas,elDef,m66,o17,o32,o66,m66]<;>first|omega|grind)|grind [inK,m66,o17,o32,o66,m66]))) ?_|refine And.intro ?_ ?_)<;>conv=>whnf)|exact True.intro|(intro;conv=>whnf)
  · have e : heNs l m = -1 := by
      rw [← he, hat ‹_›, hen]
      exact he_neg (.inl (of_decide_eq_false h))
    rw [e] at hK; exact hK
  · have e : heNs l m = -1 := by
      rw [← he, hat ‹_›, hen]
      exact he_neg (.inr (.inl (of_decide_eq_false h)))
    rw [e] at hK; exact hK
  · have e : heNs l m = -1 := by
      rw [← he, hat ‹_›, hen]
      exact he_neg (.inr (.inr (.inl (of_decide_eq_false h))))
    rw [e] at hK; exact hK
  · have e : heNs l m = -1 := by
      rw [← he, hat ‹_›, hen]
      exact he_neg (.inr (.inr (.inr (.inl (of_decide_eq_true h)))))
    rw [e] at hK; exact hK
  · have e : heNs l m = -1 := by
      rw [← he, hat ‹_›, hen]
      exact he_neg (.inr (.inr (.inr (.inr (of_decide_eq_true h)))))
    rw [e] at hK; exact hK
  · rename_i h0 h1 h2 h3 h4
    rw [he_pos (of_decide_eq_true h1) (of_decide_eq_true h2) (of_decide_eq_true h3) (of_decide_eq_false h4)] at hen
    rw [hat h0, hen, if_neg (of_decide_eq_false h)] at he
    have htt' := htt h0
    have g3 := of_decide_eq_false h4
    have g4 := of_decide_eq_false h
    exact ⟨(i + 1, heNs (l.getD i default).kids (heS (l.getD i default).names (q + 1 + 1 + 1))), [], [], ⟨by omega, by omega, by omega, he⟩, by simp only; omega, by iterate 2 ((all_goals (conv=>whnf));(repeat' (first|exact trivial|rfl|(refine nilEq ?_;first|rfl|(simp only [*];done)|(simp [*];done)|grind)|apply And.intro|((first|apply intEq|apply boolEq|apply strEq|apply psEq|apply nilEq|apply arrEq);(try simp only [Int.toNat_natCast,etas,elDef]);first | done | omega | grind | (simp only [*]; done) | (simp [*]; done)))));(all_goals ((try simp only [Int.toNat_natCast,etas,elDef]);first | done | omega | grind | (simp only [*]; done) | (simp [*]; done))), (by exact sgOk_of (by rfl))⟩
  · rw [← he, List.drop_of_length_le h, heNs] at hK; exact hK
theorem r66 : ∀ k, (CtrOK Tryd.prog 66 (.pure (Fk66 k)) ∧ Callable Tryd.prog 66) := by
  intro k
  induction k with
  | zero =>
    exact ⟨⟨fun args o v h => by unfold Fk66 at h; split at h <;> cases h; first | trivial | (simp [v66, Scalar, Scalar2, Scalar1, stC, ndC, itC, chC, nwC]), fun args K h => by
        unfold pureC Fk66 at h; split at h
        · rename_i h1; split at h1 <;> cases h1; exact absurd (h.1 _ rfl).1 (Nat.not_lt_zero _)
        · exact h.elim⟩, callable Tryd.func66 rfl (by rfl)⟩
  | succ k ih =>
    refine pure_ok (E := E66 k) (mkE_cons s17 (mkE_cons s32 (mkE_cons ih (mkE_nil tab_ok)))) mix (O := O66) (F := (Fk66 (k + 1))) Tryd.func66 rfl (by rfl) (by kernel_rfl) (fun args o v h => ?_) (fun args o v h => ?_) (fun args o v h hbd hp K hK => ?_)
    · unfold Fk66 at h; split at h <;> cases h; first | trivial | (simp [v66, Scalar, Scalar2, Scalar1, stC, ndC, itC, chC, nwC])
    · unfold Fk66 at h; split at h <;> cases h; exact Nat.le_of_ble_eq_true rfl
    · unfold Fk66 at h; split at h
      case h_2 => cases h
      cases h
      exact a66 k _ _ (hp _ rfl).1 (by exact hbd) (hp _ rfl).2 K hK
theorem s66 : (CtrOK Tryd.prog 66 (.pure F66) ∧ Callable Tryd.prog 66) := by
  refine ⟨⟨fun args o v h => ?_, fun args K h => ?_⟩, (r66 0).2⟩
  · unfold F66 at h; split at h <;> cases h; first | trivial | (simp [v66, Scalar, Scalar2, Scalar1, stC, ndC, itC, chC, nwC])
  · unfold pureC F66 at h; split at h
    · rename_i h1; split at h1 <;> cases h1
      exact (r66 (m66 _ _ + 1)).1.2 _ K ⟨fun p hp => by cases hp; exact ⟨Nat.lt_succ_self _, (h.1 _ rfl)⟩, h.2⟩
    · exact h.elim
theorem heIs_at1 {l : List It} {i : Nat} (h : i < l.length) (k : Int) : heIs (l.drop i) k = if (l.getD i default).name = mkT k then if (l.getD i default).version = k + 1 then if heN (l.getD i default).node (k + 1 + 1) < 0 then -1 else heIs (l.drop (i + 1)) (heN (l.getD i default).node (k + 1 + 1)) else -1 else -1 := by
  rw [heIs_at h, show k + 1 + 1 = k + 2 by omega]
theorem he_neg3 {Q1 Q2 : Prop} [Decidable Q1] [Decidable Q2] {a r : Int} (h : ¬ Q1 ∨ ¬ Q2 ∨ a < 0) : (if Q1 then if Q2 then if a < 0 then -1 else r else -1 else -1) = (-1 : Int) := by
  by_cases h1 : Q1 <;> by_cases h2 : Q2 <;> simp_all
theorem he_pos3 {Q1 Q2 : Prop} [Decidable Q1] [Decidable Q2] {a r : Int} (h1 : Q1) (h2 : Q2) (h3 : ¬ a < 0) : (if Q1 then if Q2 then if a < 0 then -1 else r else -1 else -1) = r := by
  rw [if_pos h1, if_pos h2, if_neg h3]
theorem he_neg1 {P1 P2 P3 P4 : Prop} [Decidable P1] [Decidable P2] [Decidable P3] [Decidable P4] {a : Int} (h : ¬ P1 ∨ ¬ P2 ∨ ¬ P3 ∨ P4 ∨ a < 0) : (if P1 then if P2 then if P3 then if P4 then (-1 : Int) else a else -1 else -1 else -1) < 0 := by
  by_cases h1 : P1 <;> by_cases h2 : P2 <;> by_cases h3 : P3 <;> by_cases h4 : P4 <;> simp_all
noncomputable def v44 (l : List It) (m : Int) : AV := .int .i64 (heIs l m)
noncomputable def o44 (l : List It) (m : Int) : Prop := 0 ≤ m ∧ m + totIs l ≤ 4611686018427387904
noncomputable def F44 : List AV → QR
  | [.ps .item l, .int .i64 m] => some (some (o44 l m), v44 l m)
  | _ => none
noncomputable def E44 : Ctx := mkE tab [(17, .pure F17), (32, .pure F32), (66, .pure F66)]
noncomputable def O44 : Nat → List DI := ordL [(4, [.q 0, .q 1, .q 2, .q 3, .q 4, .q 5, .q 6, .q 7]), (16, [.q 0, .q 1, .q 2, .q 3, .q 4, .q 5, .q 6, .q 7, .q 8])]
theorem a44 (l : List It) (m : Int) (hb : BdAs [.ps .item l, .int .i64 m]) (ho : o44 l m) (K : AV → List AV → Prop) (hK : K (v44 l m) []) : abody E44 O44 .ps Tryd.f44 (Tryd.f44.body.getD .skip) [.ps .item l, .int .i64 m] K := by
  simp only [BdAs, BdA, BdL, BdC, MX, ndC, shC, itC, stC, opC, chC, nwC, flC, rqC, rsC, enc, List.cons_append, List.nil_append, and_true, true_and] at hb
  unfold o44 at ho
  unfold v44 at hK
  conv => whnf
  repeat' first|((first|refine Cnd.mk (fun h=>?_) (fun h=>?_)|refine Gd.mk (fun h=>?_))<;>(try simp [etas,elDef,-List.getD_eq_getElem?_getD] at h)<;>conv=>whnf)|((first|refine Obl.mk (by first|omega|rfl|exact inK_byte _|(simp only [inK,Int.toNat_natCast,etas,elDef,o17,o32,o66,m66]<;>first|omega|grind)|grind [inK,o17,o32,o66,m66]) ?_|refine OblG.mk (by ((conv=>whnf);(repeat (first|refine Bx.mk ?_|(intro h;(try simp [etas,elDef,-List.getD_eq_getElem?_getD] at h);conv=>whnf)));(first|omega|rfl|exact inK_byte _|(simp only [inK,Int.toNat_natCast,etas,elDef,o17,o32,o66,m66]<;>first|omega|grind)|grind [inK,o17,o32,o66,m66]))) ?_|refine And.intro ?_ ?_)<;>conv=>whnf)|exact True.intro|(intro;conv=>whnf)
  refine aloop_intro (Nat × Int) (fun ⟨i, q⟩ => i ≤ l.length ∧ 0 ≤ q ∧ q + totIs (l.drop i) = m + totIs l ∧ heIs (l.drop i) q = heIs l m) (fun ⟨i, q⟩ => l.length - i) (fun ⟨i, q⟩ => [(5, .int .i64 i), (1, .int .i64 q)]) (fun ⟨i, q⟩ => []) [] (0, m) [] [] ?_ ?_ (by exact sgOk_of (by rfl)) ?_
  · first | (simp; done) | (simp; assumption) | (simp only; grind)
  · iterate 2 ((all_goals (conv=>whnf));(repeat' (first|exact trivial|rfl|(refine nilEq ?_;first|rfl|(simp only [*];done)|(simp [*];done)|grind)|apply And.intro|((first|apply intEq|apply boolEq|apply strEq|apply psEq|apply nilEq|apply arrEq);(try simp only [Int.toNat_natCast,etas,elDef]);first | done | omega | grind | (simp only [*]; done) | (simp [*]; done)))));(all_goals ((try simp only [Int.toNat_natCast,etas,elDef]);first | done | omega | grind | (simp only [*]; done) | (simp [*]; done)))
  rintro ⟨i, q⟩ hinv
  dsimp only at hinv
  conv => whnf
  obtain ⟨hi, hq0, hq, he⟩ := hinv
  have hat := fun h => heIs_at1 (l := l) (i := i) h q
  have htt := fun h => totIs_at (l := l) (i := i) h
  have htn := totN_eq (l.getD i default).node
  have hen := heN_eq1 (l.getD i default).node (q + 1 + 1)
  have hs2 := heS_two (l.getD i default).node.names (q + 1 + 1 + 1 + 1 + 1)
  have hk2 := heNs_two (l.getD i default).node.kids (heS (l.getD i default).node.names (q + 1 + 1 + 1 + 1 + 1))
  repeat' first|((first|refine Cnd.mk (fun h=>?_) (fun h=>?_)|refine Gd.mk (fun h=>?_))<;>(try simp [etas,elDef,-List.getD_eq_getElem?_getD] at h)<;>conv=>whnf)|((first|refine Obl.mk (by first|omega|rfl|exact inK_byte _|(simp only [inK,Int.toNat_natCast,etas,elDef,o17,o32,o66,m66]<;>first|omega|grind)|grind [inK,o17,o32,o66,m66]) ?_|refine OblG.mk (by ((conv=>whnf);(repeat (first|refine Bx.mk ?_|(intro h;(try simp [etas,elDef,-List.getD_eq_getElem?_getD] at h);conv=>whnf)));(first|omega|rfl|exact inK_byte _|(simp only [inK,Int.toNat_natCast,etas,elDef,o17,o32,o66,m66]<;>first|omega|grind)|grind [inK,o17,o32,o66,m66]))) ?_|refine And.intro ?_ ?_)<;>conv=>whnf)|exact True.intro|(intro;conv=>whnf)
  · have e : heIs l m = -1 := by
      rw [← he, hat ‹_›]; exact he_neg3 (.inl (of_decide_eq_false h))
    rw [e] at hK; exact hK
  · have e : heIs l m = -1 := by
      rw [← he, hat ‹_›]; exact he_neg3 (.inr (.inl (of_decide_eq_false h)))
    rw [e] at hK; exact hK
  · have e : heIs l m = -1 := by
      rw [← he, hat ‹_›, hen]; exact he_neg3 (.inr (.inr (he_neg1 (.inl (of_decide_eq_false h)))))
    rw [e] at hK; exact hK
  · have e : heIs l m = -1 := by
      rw [← he, hat ‹_›, hen]; exact he_neg3 (.inr (.inr (he_neg1 (.inr (.inl (of_decide_eq_false h))))))
    rw [e] at hK; exact hK
  · have e : heIs l m = -1 := by
      rw [← he, hat ‹_›, hen]; exact he_neg3 (.inr (.inr (he_neg1 (.inr (.inr (.inl (of_decide_eq_false h)))))))
    rw [e] at hK; exact hK
  · have e : heIs l m = -1 := by
      rw [← he, hat ‹_›, hen]; exact he_neg3 (.inr (.inr (he_neg1 (.inr (.inr (.inr (.inl (of_decide_eq_true h))))))))
    rw [e] at hK; exact hK
  · have e : heIs l m = -1 := by
      rw [← he, hat ‹_›, hen]; exact he_neg3 (.inr (.inr (he_neg1 (.inr (.inr (.inr (.inr (of_decide_eq_true h))))))))
    rw [e] at hK; exact hK
  · rename_i h0 g1 g2 h1 h2 h3 h4
    rw [he_pos (of_decide_eq_true h1) (of_decide_eq_true h2) (of_decide_eq_true h3) (of_decide_eq_false h4)] at hen
    rw [hat h0, hen, he_pos3 (of_decide_eq_true g1) (of_decide_eq_true g2) (of_decide_eq_false h)] at he
    have htt' := htt h0
    have g3 := of_decide_eq_false h4
    have g4 := of_decide_eq_false h
    exact ⟨(i + 1, heNs (l.getD i default).node.kids (heS (l.getD i default).node.names (q + 1 + 1 + 1 + 1 + 1))), [], [], ⟨by omega, by omega, by omega, he⟩, by simp only; omega, by iterate 2 ((all_goals (conv=>whnf));(repeat' (first|exact trivial|rfl|(refine nilEq ?_;first|rfl|(simp only [*];done)|(simp [*];done)|grind)|apply And.intro|((first|apply intEq|apply boolEq|apply strEq|apply psEq|apply nilEq|apply arrEq);(try simp only [Int.toNat_natCast,etas,elDef]);first | done | omega | grind | (simp only [*]; done) | (simp [*]; done)))));(all_goals ((try simp only [Int.toNat_natCast,etas,elDef]);first | done | omega | grind | (simp only [*]; done) | (simp [*]; done))), (by exact sgOk_of (by rfl))⟩
  · rw [← he, List.drop_of_length_le h, heIs] at hK; exact hK
theorem s44 : (CtrOK Tryd.prog 44 (.pure F44) ∧ Callable Tryd.prog 44) := by
  refine pure_ok (E := E44) (mkE_cons s17 (mkE_cons s32 (mkE_cons s66 (mkE_nil tab_ok)))) mix (O := O44) (F := F44) Tryd.func44 rfl (by rfl) (by kernel_rfl) (fun args o v h => ?_) (fun args o v h => ?_) (fun args o v h hbd hp K hK => ?_)
  · unfold F44 at h; split at h <;> cases h; first | trivial | (simp [v44, Scalar, Scalar2, Scalar1, stC, ndC, itC, chC, nwC])
  · unfold F44 at h; split at h <;> cases h; exact Nat.le_of_ble_eq_true rfl
  · unfold F44 at h; split at h
    case h_2 => cases h
    cases h
    exact a44 _ _ (by exact hbd) (hp _ rfl) K hK
noncomputable def v20 (s : Sto) (m : Int) : AV := .int .i64 (heIs s.items m)
noncomputable def o20 (s : Sto) (m : Int) : Prop := 0 ≤ m ∧ m + totIs s.items ≤ 4611686018427387904
noncomputable def F20 : List AV → QR
  | [.st [.ps .item s_0, .int .i64 s_1], .int .i64 m] => some (some (o20 ⟨s_0, s_1⟩ m), v20 ⟨s_0, s_1⟩ m)
  | _ => none
noncomputable def E20 : Ctx := mkE tab [(44, .pure F44)]
noncomputable def O20 : Nat → List DI := ordL []
theorem a20 (s : Sto) (m : Int) (hb : BdAs [.st (stC s), .int .i64 m]) (ho : o20 s m) (K : AV → List AV → Prop) (hK : K (v20 s m) []) : abody E20 O20 .ps Tryd.f20 (Tryd.f20.body.getD .skip) [.st (stC s), .int .i64 m] K := by
  simp only [BdAs, BdA, BdL, BdC, MX, ndC, shC, itC, stC, opC, chC, nwC, flC, rqC, rsC, enc, List.cons_append, List.nil_append, and_true, true_and] at hb
  unfold o20 at ho
  unfold v20 at hK
  have h2 := heIs_two s.items m
  conv => whnf
  repeat' first|((first|refine Cnd.mk (fun h=>?_) (fun h=>?_)|refine Gd.mk (fun h=>?_))<;>(try simp [etas,elDef,-List.getD_eq_getElem?_getD] at h)<;>conv=>whnf)|((first|refine Obl.mk (by first|omega|rfl|exact inK_byte _|(simp only [inK,Int.toNat_natCast,etas,elDef,o44]<;>first|omega|grind)|grind [inK,o44]) ?_|refine OblG.mk (by ((conv=>whnf);(repeat (first|refine Bx.mk ?_|(intro h;(try simp [etas,elDef,-List.getD_eq_getElem?_getD] at h);conv=>whnf)));(first|omega|rfl|exact inK_byte _|(simp only [inK,Int.toNat_natCast,etas,elDef,o44]<;>first|omega|grind)|grind [inK,o44]))) ?_|refine And.intro ?_ ?_)<;>conv=>whnf)|exact True.intro|(intro;conv=>whnf)
  · have e : heIs s.items m = -1 := by omega
    rw [e] at hK; exact hK
  · exact hK
theorem s20 : (CtrOK Tryd.prog 20 (.pure F20) ∧ Callable Tryd.prog 20) := by
  refine pure_ok (E := E20) (mkE_cons s44 (mkE_nil tab_ok)) mix (O := O20) (F := F20) Tryd.func20 rfl (by rfl) (by kernel_rfl) (fun args o v h => ?_) (fun args o v h => ?_) (fun args o v h hbd hp K hK => ?_)
  · unfold F20 at h; split at h <;> cases h; first | trivial | (simp [v20, Scalar, Scalar2, Scalar1, stC, ndC, itC, chC, nwC])
  · unfold F20 at h; split at h <;> cases h; exact Nat.le_of_ble_eq_true rfl
  · unfold F20 at h; split at h
    case h_2 => cases h
    cases h
    exact a20 ⟨_, _⟩ _ (by exact hbd) (hp _ rfl) K hK
end Go.Rs

