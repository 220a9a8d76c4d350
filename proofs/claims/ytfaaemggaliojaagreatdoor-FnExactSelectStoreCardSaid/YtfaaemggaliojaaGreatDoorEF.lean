import Derived.Test.YtfaaemggaliojaaGreatDoorCK
import Derived.Test.YtfaaemggaliojaaGreatDoorCG
import Derived.Test.YtfaaemggaliojaaGreatDoorMB
import Derived.Test.YtfaaemggaliojaaGreatDoorDelB
import Derived.Test.YtfaaemggaliojaaGreatDoorMG
import Derived.Test.YtfaaemggaliojaaGreatDoorMH
set_option linter.all false
set_option linter.unusedSimpArgs false
set_option linter.unusedVariables false
namespace Go.Rs
open Go.Proofs
set_option maxRecDepth 100000
noncomputable def c35 (l : List Bs) (m : Int) (K : AV → List AV → Prop) : Prop :=
    Obl ((0 ≤ m ∧ m ≤ 1048576) ∧ ∀ x ∈ l, x.length ≤ 140737488355328) (∀ r : Int, szOk m r (l.length ≤ 2097152 ∧ (l.length : Int) ≤ m - r) → K (.int .i64 r) [])
noncomputable def C35 : List AV → (AV → List AV → Prop) → Prop
  | [.ps .str l, .int .i64 m], K => c35 l m K
  | _, _ => False
noncomputable def E35 : Ctx := mkE tab []
noncomputable def O35 : Nat → List DI := ordL []
theorem a35 (l : List Bs) (m : Int) (hb : BdAs [.ps .str l, .int .i64 m]) (K : AV → List AV → Prop) (h : c35 l m K) : abody E35 O35 .ps Tryz.f35 (Tryz.f35.body.getD .skip) [.ps .str l, .int .i64 m] K := by
  simp only [BdAs, BdA, BdL, BdC, MX, ndC, shC, itC, stC, opC, chC, nwC, flC, rqC, rsC, enc, List.cons_append, List.nil_append, and_true, true_and] at hb
  unfold c35 at h
  obtain ⟨⟨hm, hx⟩, hK⟩ := h
  conv => whnf
  repeat' first|(refine Cnd.mk (fun h=>?_) (fun h=>?_)<;>(try simp [etas,elDef,-List.getD_eq_getElem?_getD] at h)<;>conv=>whnf)|(refine Obl.mk (by first|omega|rfl|exact inK_byte _|(simp only [inK,Int.toNat_natCast,etas,elDef]<;>first|omega|grind)|grind [inK]) ?_<;>conv=>whnf)|(refine OblG.mk (by ((conv=>whnf);(repeat (first|(refine Bx.mk ?_)|(intro h;(try simp [etas,elDef,-List.getD_eq_getElem?_getD] at h);conv=>whnf)));(first|omega|rfl|exact inK_byte _|(simp only [inK,Int.toNat_natCast,etas,elDef]<;>first|omega|grind)|grind [inK]))) ?_<;>conv=>whnf)|(refine Gd.mk (fun h=>?_)<;>(try simp [etas,elDef,-List.getD_eq_getElem?_getD] at h)<;>conv=>whnf)|(refine And.intro ?_ ?_<;>conv=>whnf)|exact True.intro|(intro;conv=>whnf)
  · exact hK _ (.inl rfl)
  refine aloop_intro (Nat × Int) (fun ⟨i, q⟩ => i ≤ l.length ∧ 0 ≤ q ∧ q ≤ m - l.length) (fun ⟨i, q⟩ => l.length - i) (fun ⟨i, q⟩ => [(5, .int .i64 i), (1, .int .i64 q)]) (fun ⟨i, q⟩ => []) [] (0, m - l.length) [] [] ?_ ?_ (by exact sgOk_of (by rfl)) ?_
  · first | (simp; done) | (simp; assumption) | (simp only; grind)
  · iterate 2 ((all_goals (conv=>whnf));(repeat' (first|exact trivial|rfl|(refine nilEq ?_;first|rfl|(simp only [*];done)|(simp [*];done)|grind)|apply And.intro|((first|refine intEq ?_|refine boolEq ?_|refine strEq ?_|refine psEq ?_|refine nilEq ?_|refine arrEq ?_);(try simp only [Int.toNat_natCast,etas,elDef]);first | done | omega | grind | (simp only [*]; done) | (simp [*]; done)))));(all_goals ((try simp only [Int.toNat_natCast,etas,elDef]);first | done | omega | grind | (simp only [*]; done) | (simp [*]; done)))
  rintro ⟨i, q⟩ hinv
  dsimp only at hinv
  conv => whnf
  obtain ⟨hi1, hi2, hi3⟩ := hinv
  have hx2 := bdT_getD hx (i : Int).toNat
  repeat' first|(refine Cnd.mk (fun h=>?_) (fun h=>?_)<;>(try simp [etas,elDef,-List.getD_eq_getElem?_getD] at h)<;>conv=>whnf)|(refine Obl.mk (by first|omega|rfl|exact inK_byte _|(simp only [inK,Int.toNat_natCast,etas,elDef]<;>first|omega|grind)|grind [inK]) ?_<;>conv=>whnf)|(refine OblG.mk (by ((conv=>whnf);(repeat (first|(refine Bx.mk ?_)|(intro h;(try simp [etas,elDef,-List.getD_eq_getElem?_getD] at h);conv=>whnf)));(first|omega|rfl|exact inK_byte _|(simp only [inK,Int.toNat_natCast,etas,elDef]<;>first|omega|grind)|grind [inK]))) ?_<;>conv=>whnf)|(refine Gd.mk (fun h=>?_)<;>(try simp [etas,elDef,-List.getD_eq_getElem?_getD] at h)<;>conv=>whnf)|(refine And.intro ?_ ?_<;>conv=>whnf)|exact True.intro|(intro;conv=>whnf)
  · exact hK _ (.inl rfl)
  · exact ⟨(i + 1, q - (l.getD i []).length), [], [], ⟨by omega, by simp_all, by omega⟩, by simp only; omega, by iterate 2 ((all_goals (conv=>whnf));(repeat' (first|exact trivial|rfl|(refine nilEq ?_;first|rfl|(simp only [*];done)|(simp [*];done)|grind)|apply And.intro|((first|refine intEq ?_|refine boolEq ?_|refine strEq ?_|refine psEq ?_|refine nilEq ?_|refine arrEq ?_);(try simp only [Int.toNat_natCast,etas,elDef]);first | done | omega | grind | (simp only [*]; done) | (simp [*]; done)))));(all_goals ((try simp only [Int.toNat_natCast,etas,elDef]);first | done | omega | grind | (simp only [*]; done) | (simp [*]; done))), (by exact sgOk_of (by rfl))⟩
  · exact hK _ (.inr ⟨by omega, by omega, by omega, by omega⟩)
theorem s35 : (CtrOK Tryz.prog 35 (.gen .ps C35) ∧ Callable Tryz.prog 35) := by
  refine gen_ok (E := E35) (mkE_nil tab_ok) mix (O := O35) (C := C35) (own := .ps) Tryz.func35 rfl (by rfl) (by kernel_rfl) (fun args K h hbd => ?_)
  unfold C35 at h; split at h
  case h_2 => exact h.elim
  exact ⟨Nat.le_of_ble_eq_true rfl, a35 _ _ (by exact hbd) _ h⟩
noncomputable def c36 (n : Nd) (m : Int) (K : AV → List AV → Prop) : Prop :=
    Obl ((0 ≤ m ∧ m ≤ 1048576) ∧ bdN n) (∀ r : Int, szOk m r (smN n ∧ (totN n : Int) ≤ 3 + 3 * (m - r)) → K (.int .i64 r) [])
noncomputable def m36 (n : Nd) (m : Int) : Nat := SizeOf.sizeOf n
noncomputable def C36 : List AV → (AV → List AV → Prop) → Prop
  | [.st [.int .i64 n_0, .int .i64 n_1, .str n_2, .ps .str n_3, .ps .node n_4], .int .i64 m], K => c36 ⟨n_0, n_1, n_2, n_3, n_4⟩ m K
  | _, _ => False
noncomputable def Ck36 (k : Nat) : List AV → (AV → List AV → Prop) → Prop
  | [.st [.int .i64 n_0, .int .i64 n_1, .str n_2, .ps .str n_3, .ps .node n_4], .int .i64 m], K => Obl (m36 ⟨n_0, n_1, n_2, n_3, n_4⟩ m < k) (c36 ⟨n_0, n_1, n_2, n_3, n_4⟩ m K)
  | _, _ => False
noncomputable def c56 (l : List Nd) (m : Int) (K : AV → List AV → Prop) : Prop :=
    Obl ((0 ≤ m ∧ m ≤ 1048576) ∧ ∀ x ∈ l, bdN x) (∀ r : Int, szOk m r (smNs l ∧ (totNs l : Int) ≤ 3 * (m - r)) → K (.int .i64 r) [])
noncomputable def m56 (l : List Nd) (m : Int) : Nat := SizeOf.sizeOf l
noncomputable def Ck56 (k : Nat) : List AV → (AV → List AV → Prop) → Prop
  | [.ps .node l, .int .i64 m], K => Obl (m56 l m < k) (c56 l m K)
  | _, _ => False
noncomputable def E36 (k : Nat) : Ctx := mkE tab [(35, .gen .ps C35), (56, .gen .ps (Ck56 k))]
noncomputable def O36 : Nat → List DI := ordL []
theorem a36 (k : Nat) (n : Nd) (m : Int) (hm : m36 n m < k + 1) (hb : BdAs [.st (ndC n), .int .i64 m]) (K : AV → List AV → Prop) (h : c36 n m K) : abody (E36 k) O36 .ps Tryz.f36 (Tryz.f36.body.getD .skip) [.st (ndC n), .int .i64 m] K := by
  simp only [BdAs, BdA, BdL, BdC, MX, ndC, shC, itC, stC, opC, chC, nwC, flC, rqC, rsC, enc, List.cons_append, List.nil_append, and_true, true_and] at hb
  unfold c36 at h
  unfold m36 at hm
  obtain ⟨⟨hm, hx⟩, hK⟩ := h
  have h1 := kids_size n
  have h2 := hx.names
  have h3 := hx.kids
  conv => whnf
  repeat' first|(refine Cnd.mk (fun h=>?_) (fun h=>?_)<;>(try simp [etas,elDef,-List.getD_eq_getElem?_getD] at h)<;>conv=>whnf)|(refine Obl.mk (by first|omega|rfl|exact inK_byte _|(simp only [inK,Int.toNat_natCast,etas,elDef,m36,m56,m56]<;>first|omega|grind)|grind [inK,m36,m56,m56]) ?_<;>conv=>whnf)|(refine OblG.mk (by ((conv=>whnf);(repeat (first|(refine Bx.mk ?_)|(intro h;(try simp [etas,elDef,-List.getD_eq_getElem?_getD] at h);conv=>whnf)));(first|omega|rfl|exact inK_byte _|(simp only [inK,Int.toNat_natCast,etas,elDef,m36,m56,m56]<;>first|omega|grind)|grind [inK,m36,m56,m56]))) ?_<;>conv=>whnf)|(refine Gd.mk (fun h=>?_)<;>(try simp [etas,elDef,-List.getD_eq_getElem?_getD] at h)<;>conv=>whnf)|(refine And.intro ?_ ?_<;>conv=>whnf)|exact True.intro|(intro;conv=>whnf)
  · exact hK _ (.inl rfl)
  · exact hK _ (.inl rfl)
  · exact hK _ (.inl rfl)
  · rename_i r1 hr1 _ r2 hr2
    have h5 : smNs n.kids ∧ (totNs n.kids : Int) ≤ 3 * (r1 - r2) := by rcases hr2 with h | h; omega; exact h.2.2
    have h6 := h5.2
    have h7 := totN_eq n
    exact hK _ (.inr ⟨by omega, by omega, smN_of (by omega) (by omega) h5.1, by omega⟩)
noncomputable def E56 (k : Nat) : Ctx := mkE tab [(36, .gen .ps (Ck36 k))]
noncomputable def O56 : Nat → List DI := ordL []
theorem a56 (k : Nat) (l : List Nd) (m : Int) (hm : m56 l m < k + 1) (hb : BdAs [.ps .node l, .int .i64 m]) (K : AV → List AV → Prop) (h : c56 l m K) : abody (E56 k) O56 .ps Tryz.f56 (Tryz.f56.body.getD .skip) [.ps .node l, .int .i64 m] K := by
  simp only [BdAs, BdA, BdL, BdC, MX, ndC, shC, itC, stC, opC, chC, nwC, flC, rqC, rsC, enc, List.cons_append, List.nil_append, and_true, true_and] at hb
  unfold c56 at h
  unfold m56 at hm
  obtain ⟨⟨hm, hx⟩, hK⟩ := h
  have hkid : ∀ j, j < l.length → SizeOf.sizeOf (l.getD j default) < k ∧ bdN (l.getD j default) := fun j hj => ⟨by have := mem_size hj; omega, bdN_getD hx hj⟩
  conv => whnf
  repeat' first|(refine Cnd.mk (fun h=>?_) (fun h=>?_)<;>(try simp [etas,elDef,-List.getD_eq_getElem?_getD] at h)<;>conv=>whnf)|(refine Obl.mk (by first|omega|rfl|exact inK_byte _|(simp only [inK,Int.toNat_natCast,etas,elDef,m36,m56,m36]<;>first|omega|grind)|grind [inK,m36,m56,m36]) ?_<;>conv=>whnf)|(refine OblG.mk (by ((conv=>whnf);(repeat (first|(refine Bx.mk ?_)|(intro h;(try simp [etas,elDef,-List.getD_eq_getElem?_getD] at h);conv=>whnf)));(first|omega|rfl|exact inK_byte _|(simp only [inK,Int.toNat_natCast,etas,elDef,m36,m56,m36]<;>first|omega|grind)|grind [inK,m36,m56,m36]))) ?_<;>conv=>whnf)|(refine Gd.mk (fun h=>?_)<;>(try simp [etas,elDef,-List.getD_eq_getElem?_getD] at h)<;>conv=>whnf)|(refine And.intro ?_ ?_<;>conv=>whnf)|exact True.intro|(intro;conv=>whnf)
  · exact hK _ (.inl rfl)
  have hz0 : totNs (l.take 0) = 0 := rfl
  refine aloop_intro (Nat × Int) (fun ⟨i, q⟩ => i ≤ l.length ∧ 0 ≤ q ∧ q ≤ m ∧ (∀ j, j < i → smN (l.getD j default)) ∧ (totNs (l.take i) : Int) + 3 * q ≤ 3 * (m - l.length) + 3 * i) (fun ⟨i, q⟩ => l.length - i) (fun ⟨i, q⟩ => [(5, .int .i64 i), (1, .int .i64 q)]) (fun ⟨i, q⟩ => []) [] (0, m - l.length) [] [] ?_ ?_ (by exact sgOk_of (by rfl)) ?_
  · first | (simp; done) | (simp; assumption) | (simp only; grind)
  · iterate 2 ((all_goals (conv=>whnf));(repeat' (first|exact trivial|rfl|(refine nilEq ?_;first|rfl|(simp only [*];done)|(simp [*];done)|grind)|apply And.intro|((first|refine intEq ?_|refine boolEq ?_|refine strEq ?_|refine psEq ?_|refine nilEq ?_|refine arrEq ?_);(try simp only [Int.toNat_natCast,etas,elDef]);first | done | omega | grind | (simp only [*]; done) | (simp [*]; done)))));(all_goals ((try simp only [Int.toNat_natCast,etas,elDef]);first | done | omega | grind | (simp only [*]; done) | (simp [*]; done)))
  rintro ⟨i, q⟩ hinv
  dsimp only at hinv
  conv => whnf
  obtain ⟨hi1, hi2, hi3, hi4, hi5⟩ := hinv
  have htk := fun h => totNs_take (l := l) (i := i) h
  repeat' first|(refine Cnd.mk (fun h=>?_) (fun h=>?_)<;>(try simp [etas,elDef,-List.getD_eq_getElem?_getD] at h)<;>conv=>whnf)|(refine Obl.mk (by first|omega|rfl|exact inK_byte _|(simp only [inK,Int.toNat_natCast,etas,elDef,m36,m56,m36]<;>first|omega|grind)|grind [inK,m36,m56,m36]) ?_<;>conv=>whnf)|(refine OblG.mk (by ((conv=>whnf);(repeat (first|(refine Bx.mk ?_)|(intro h;(try simp [etas,elDef,-List.getD_eq_getElem?_getD] at h);conv=>whnf)));(first|omega|rfl|exact inK_byte _|(simp only [inK,Int.toNat_natCast,etas,elDef,m36,m56,m36]<;>first|omega|grind)|grind [inK,m36,m56,m36]))) ?_<;>conv=>whnf)|(refine Gd.mk (fun h=>?_)<;>(try simp [etas,elDef,-List.getD_eq_getElem?_getD] at h)<;>conv=>whnf)|(refine And.intro ?_ ?_<;>conv=>whnf)|exact True.intro|(intro;conv=>whnf)
  · exact hK _ (.inl rfl)
  · rename_i _ r hr
    have htk := htk ‹_›
    have h5 : smN (l.getD i default) ∧ (totN (l.getD i default) : Int) ≤ 3 + 3 * (q - r) := by
      rcases hr with h | h
      · omega
      · have h6 := h.2.2
        simp only [nd_eta, getD_nat] at h6
        exact h6
    have h6 := h5.2
    exact ⟨(i + 1, r), [], [], ⟨by omega, by omega, by omega, fun j hj => by rcases Nat.lt_succ_iff_lt_or_eq.1 hj with h | h; exact hi4 j h; rw [h]; exact h5.1, by rw [htk]; push_cast; omega⟩, by simp only; omega, by iterate 2 ((all_goals (conv=>whnf));(repeat' (first|exact trivial|rfl|(refine nilEq ?_;first|rfl|(simp only [*];done)|(simp [*];done)|grind)|apply And.intro|((first|refine intEq ?_|refine boolEq ?_|refine strEq ?_|refine psEq ?_|refine nilEq ?_|refine arrEq ?_);(try simp only [Int.toNat_natCast,etas,elDef]);first | done | omega | grind | (simp only [*]; done) | (simp [*]; done)))));(all_goals ((try simp only [Int.toNat_natCast,etas,elDef]);first | done | omega | grind | (simp only [*]; done) | (simp [*]; done))), (by exact sgOk_of (by rfl))⟩
  · have e1 : l.take i = l := List.take_of_length_le (by omega)
    rw [e1] at hi5
    exact hK _ (.inr ⟨by omega, by omega, smNs_of (by omega) fun j hj => hi4 j (by omega), by omega⟩)
theorem r36_56 : ∀ k, (CtrOK Tryz.prog 36 (.gen .ps (Ck36 k)) ∧ Callable Tryz.prog 36) ∧ (CtrOK Tryz.prog 56 (.gen .ps (Ck56 k)) ∧ Callable Tryz.prog 56) := by
  intro k
  induction k with
  | zero =>
    exact ⟨⟨fun args K h => by
        unfold Ck36 at h; split at h
        · exact absurd h.o (Nat.not_lt_zero _)
        · exact h.elim, callable Tryz.func36 rfl (by rfl)⟩, ⟨fun args K h => by
        unfold Ck56 at h; split at h
        · exact absurd h.o (Nat.not_lt_zero _)
        · exact h.elim, callable Tryz.func56 rfl (by rfl)⟩⟩
  | succ k ih =>
    refine ⟨?_, ?_⟩
    · refine gen_ok (E := E36 k) (mkE_cons s35 (mkE_cons ih.2 (mkE_nil tab_ok))) mix (O := O36) (C := (Ck36 (k + 1))) (own := .ps) Tryz.func36 rfl (by rfl) (by kernel_rfl) (fun args K h hbd => ?_)
      unfold Ck36 at h; split at h
      case h_2 => exact h.elim
      exact ⟨Nat.le_of_ble_eq_true rfl, a36 k ⟨_, _, _, _, _⟩ _ h.o (by exact hbd) _ h.k⟩
    · refine gen_ok (E := E56 k) (mkE_cons ih.1 (mkE_nil tab_ok)) mix (O := O56) (C := (Ck56 (k + 1))) (own := .ps) Tryz.func56 rfl (by rfl) (by kernel_rfl) (fun args K h hbd => ?_)
      unfold Ck56 at h; split at h
      case h_2 => exact h.elim
      exact ⟨Nat.le_of_ble_eq_true rfl, a56 k _ _ h.o (by exact hbd) _ h.k⟩
theorem s36 : (CtrOK Tryz.prog 36 (.gen .ps C36) ∧ Callable Tryz.prog 36) := by
  refine ⟨fun args K h => ?_, (r36_56 0).1.2⟩
  unfold C36 at h; split at h
  · exact (r36_56 (m36 ⟨_, _, _, _, _⟩ _ + 1)).1.1 _ K ⟨Nat.lt_succ_self _, h⟩
  · exact h.elim
noncomputable def c63 (l : List Nd) (K : AV → List AV → Prop) : Prop :=
    Obl (smNs l) (K (.ps .node l) [])
noncomputable def v52 (a : List Bs) (b : List Bs) : AV := .bool (eqD a b)
noncomputable def o52 (a : List Bs) (b : List Bs) : Prop := True
noncomputable def F52 : List AV → QR
  | [.ps .str a, .ps .str b] => some (none, v52 a b)
  | _ => none
noncomputable def E52 : Ctx := mkE tab []
noncomputable def O52 : Nat → List DI := ordL [(6, [.q 0, .q 1, .q 2, .q 3, .q 4, .q 5, .q 6, .q 7, .q 8])]
theorem a52 (a : List Bs) (b : List Bs) (hb : BdAs [.ps .str a, .ps .str b]) (ho : o52 a b) (K : AV → List AV → Prop) (hK : K (v52 a b) []) : abody E52 O52 .ps Tryz.f52 (Tryz.f52.body.getD .skip) [.ps .str a, .ps .str b] K := by
  simp only [BdAs, BdA, BdL, BdC, MX, ndC, shC, itC, stC, opC, chC, nwC, flC, rqC, rsC, enc, List.cons_append, List.nil_append, and_true, true_and] at hb
  unfold v52 at hK
  conv => whnf
  repeat' first|(refine Cnd.mk (fun h=>?_) (fun h=>?_)<;>(try simp [etas,elDef,-List.getD_eq_getElem?_getD] at h)<;>conv=>whnf)|(refine Obl.mk (by first|omega|rfl|exact inK_byte _|(simp only [inK,Int.toNat_natCast,etas,elDef]<;>first|omega|grind)|grind [inK]) ?_<;>conv=>whnf)|(refine OblG.mk (by ((conv=>whnf);(repeat (first|(refine Bx.mk ?_)|(intro h;(try simp [etas,elDef,-List.getD_eq_getElem?_getD] at h);conv=>whnf)));(first|omega|rfl|exact inK_byte _|(simp only [inK,Int.toNat_natCast,etas,elDef]<;>first|omega|grind)|grind [inK]))) ?_<;>conv=>whnf)|(refine Gd.mk (fun h=>?_)<;>(try simp [etas,elDef,-List.getD_eq_getElem?_getD] at h)<;>conv=>whnf)|(refine And.intro ?_ ?_<;>conv=>whnf)|exact True.intro|(intro;conv=>whnf)
  · exact leafB hK (eqD_no.2 (by grind))
  refine aloop_intro Nat (fun k => k ≤ a.length ∧ ∀ j, j < k → a.getD j [] = b.getD j []) (fun k => a.length - k) (fun k => [(5, .int .i64 k)]) (fun _ => []) [] 0 [] [] (by simp) ?_ (by exact sgOk_of (by rfl)) ?_
  · iterate 2 ((all_goals (conv=>whnf));(repeat' (first|exact trivial|rfl|(refine nilEq ?_;first|rfl|(simp only [*];done)|(simp [*];done)|grind)|apply And.intro|((first|refine intEq ?_|refine boolEq ?_|refine strEq ?_|refine psEq ?_|refine nilEq ?_|refine arrEq ?_);(try simp only [Int.toNat_natCast,etas,elDef]);first | done | omega | grind | (simp only [*]; done) | (simp [*]; done)))));(all_goals ((try simp only [Int.toNat_natCast,etas,elDef]);first | done | omega | grind | (simp only [*]; done) | (simp [*]; done)))
  rintro i ⟨hi, hj⟩
  conv => whnf
  repeat' first|(refine Cnd.mk (fun h=>?_) (fun h=>?_)<;>(try simp [etas,elDef,-List.getD_eq_getElem?_getD] at h)<;>conv=>whnf)|(refine Obl.mk (by first|omega|rfl|exact inK_byte _|(simp only [inK,Int.toNat_natCast,etas,elDef]<;>first|omega|grind)|grind [inK]) ?_<;>conv=>whnf)|(refine OblG.mk (by ((conv=>whnf);(repeat (first|(refine Bx.mk ?_)|(intro h;(try simp [etas,elDef,-List.getD_eq_getElem?_getD] at h);conv=>whnf)));(first|omega|rfl|exact inK_byte _|(simp only [inK,Int.toNat_natCast,etas,elDef]<;>first|omega|grind)|grind [inK]))) ?_<;>conv=>whnf)|(refine Gd.mk (fun h=>?_)<;>(try simp [etas,elDef,-List.getD_eq_getElem?_getD] at h)<;>conv=>whnf)|(refine And.intro ?_ ?_<;>conv=>whnf)|exact True.intro|(intro;conv=>whnf)
  · exact leafB hK (eqD_no.2 (by grind))
  · exact ⟨i + 1, [], [], ⟨by omega, by grind⟩, by omega, by iterate 2 ((all_goals (conv=>whnf));(repeat' (first|exact trivial|rfl|(refine nilEq ?_;first|rfl|(simp only [*];done)|(simp [*];done)|grind)|apply And.intro|((first|refine intEq ?_|refine boolEq ?_|refine strEq ?_|refine psEq ?_|refine nilEq ?_|refine arrEq ?_);(try simp only [Int.toNat_natCast,etas,elDef]);first | done | omega | grind | (simp only [*]; done) | (simp [*]; done)))));(all_goals ((try simp only [Int.toNat_natCast,etas,elDef]);first | done | omega | grind | (simp only [*]; done) | (simp [*]; done))), (by exact sgOk_of (by rfl))⟩
  · exact leafB hK (eqD_iff.2 (listEq [] (by omega) (by grind)))
theorem s52 : (CtrOK Tryz.prog 52 (.pure F52) ∧ Callable Tryz.prog 52) := by
  refine pure_ok (E := E52) (mkE_nil tab_ok) mix (O := O52) (F := F52) Tryz.func52 rfl (by rfl) (by kernel_rfl) (fun args o v h => ?_) (fun args o v h => ?_) (fun args o v h hbd hp K hK => ?_)
  · unfold F52 at h; split at h <;> cases h; first | trivial | (simp [v52, Scalar, Scalar2, Scalar1, stC, ndC, itC, chC, nwC])
  · unfold F52 at h; split at h <;> cases h; exact Nat.le_of_ble_eq_true rfl
  · unfold F52 at h; split at h
    case h_2 => cases h
    cases h
    exact a52 _ _ (by exact hbd) trivial K hK
noncomputable def v53 (a : Nd) (b : Nd) : AV := .bool (eqD a b)
noncomputable def o53 (a : Nd) (b : Nd) : Prop := True
noncomputable def m53 (a : Nd) (b : Nd) : Nat := SizeOf.sizeOf a
noncomputable def F53 : List AV → QR
  | [.st [.int .i64 a_0, .int .i64 a_1, .str a_2, .ps .str a_3, .ps .node a_4], .st [.int .i64 b_0, .int .i64 b_1, .str b_2, .ps .str b_3, .ps .node b_4]] => some (none, v53 ⟨a_0, a_1, a_2, a_3, a_4⟩ ⟨b_0, b_1, b_2, b_3, b_4⟩)
  | _ => none
noncomputable def Fk53 (k : Nat) : List AV → QR
  | [.st [.int .i64 a_0, .int .i64 a_1, .str a_2, .ps .str a_3, .ps .node a_4], .st [.int .i64 b_0, .int .i64 b_1, .str b_2, .ps .str b_3, .ps .node b_4]] => some (some (m53 ⟨a_0, a_1, a_2, a_3, a_4⟩ ⟨b_0, b_1, b_2, b_3, b_4⟩ < k ∧ o53 ⟨a_0, a_1, a_2, a_3, a_4⟩ ⟨b_0, b_1, b_2, b_3, b_4⟩), v53 ⟨a_0, a_1, a_2, a_3, a_4⟩ ⟨b_0, b_1, b_2, b_3, b_4⟩)
  | _ => none
noncomputable def v68 (a : List Nd) (b : List Nd) : AV := .bool (eqD a b)
noncomputable def o68 (a : List Nd) (b : List Nd) : Prop := True
noncomputable def m68 (a : List Nd) (b : List Nd) : Nat := SizeOf.sizeOf a
noncomputable def Fk68 (k : Nat) : List AV → QR
  | [.ps .node a, .ps .node b] => some (some (m68 a b < k ∧ o68 a b), v68 a b)
  | _ => none
noncomputable def E53 (k : Nat) : Ctx := mkE tab [(52, .pure F52), (68, .pure (Fk68 k))]
noncomputable def O53 : Nat → List DI := ordL []
theorem a53 (k : Nat) (a : Nd) (b : Nd) (hm : m53 a b < k + 1) (hb : BdAs [.st (ndC a), .st (ndC b)]) (ho : o53 a b) (K : AV → List AV → Prop) (hK : K (v53 a b) []) : abody (E53 k) O53 .ps Tryz.f53 (Tryz.f53.body.getD .skip) [.st (ndC a), .st (ndC b)] K := by
  simp only [BdAs, BdA, BdL, BdC, MX, ndC, shC, itC, stC, opC, chC, nwC, flC, rqC, rsC, enc, List.cons_append, List.nil_append, and_true, true_and] at hb
  unfold v53 at hK
  unfold m53 at hm
  have h1 := kids_size a
  conv => whnf
  repeat' first|(refine Cnd.mk (fun h=>?_) (fun h=>?_)<;>(try simp [etas,elDef,-List.getD_eq_getElem?_getD] at h)<;>conv=>whnf)|(refine Obl.mk (by first|omega|rfl|exact inK_byte _|(simp only [inK,Int.toNat_natCast,etas,elDef,m53,m68,o68,m68]<;>first|omega|grind)|grind [inK,m53,m68,o68,m68]) ?_<;>conv=>whnf)|(refine OblG.mk (by ((conv=>whnf);(repeat (first|(refine Bx.mk ?_)|(intro h;(try simp [etas,elDef,-List.getD_eq_getElem?_getD] at h);conv=>whnf)));(first|omega|rfl|exact inK_byte _|(simp only [inK,Int.toNat_natCast,etas,elDef,m53,m68,o68,m68]<;>first|omega|grind)|grind [inK,m53,m68,o68,m68]))) ?_<;>conv=>whnf)|(refine Gd.mk (fun h=>?_)<;>(try simp [etas,elDef,-List.getD_eq_getElem?_getD] at h)<;>conv=>whnf)|(refine And.intro ?_ ?_<;>conv=>whnf)|exact True.intro|(intro;conv=>whnf)
  · exact leafB hK (eqD_no.2 (by grind))
  · exact leafB hK (eqD_no.2 (by grind))
  · exact leafB hK (eqD_no.2 (by grind))
  · exact leafB hK (eqD_no.2 (by grind [eqD_no]))
  · exact leafB hK (eqD_no.2 (by grind [eqD_no]))
  · exact leafB hK (eqD_iff.2 (nd_ext (by grind) (by grind) (by grind) (by grind [eqD_iff]) (by grind [eqD_iff])))
noncomputable def E68 (k : Nat) : Ctx := mkE tab [(53, .pure (Fk53 k))]
noncomputable def O68 : Nat → List DI := ordL [(6, [.q 0, .q 1, .q 2, .q 3, .q 4, .q 5, .q 6, .q 7, .q 8, .q 9])]
theorem a68 (k : Nat) (a : List Nd) (b : List Nd) (hm : m68 a b < k + 1) (hb : BdAs [.ps .node a, .ps .node b]) (ho : o68 a b) (K : AV → List AV → Prop) (hK : K (v68 a b) []) : abody (E68 k) O68 .ps Tryz.f68 (Tryz.f68.body.getD .skip) [.ps .node a, .ps .node b] K := by
  simp only [BdAs, BdA, BdL, BdC, MX, ndC, shC, itC, stC, opC, chC, nwC, flC, rqC, rsC, enc, List.cons_append, List.nil_append, and_true, true_and] at hb
  unfold v68 at hK
  unfold m68 at hm
  have hkid : ∀ j, j < a.length → SizeOf.sizeOf (a.getD j default) < k := fun j hj => by have := mem_size hj; omega
  conv => whnf
  repeat' first|(refine Cnd.mk (fun h=>?_) (fun h=>?_)<;>(try simp [etas,elDef,-List.getD_eq_getElem?_getD] at h)<;>conv=>whnf)|(refine Obl.mk (by first|omega|rfl|exact inK_byte _|(simp only [inK,Int.toNat_natCast,etas,elDef,m53,m68,o53,m53]<;>first|omega|grind)|grind [inK,m53,m68,o53,m53]) ?_<;>conv=>whnf)|(refine OblG.mk (by ((conv=>whnf);(repeat (first|(refine Bx.mk ?_)|(intro h;(try simp [etas,elDef,-List.getD_eq_getElem?_getD] at h);conv=>whnf)));(first|omega|rfl|exact inK_byte _|(simp only [inK,Int.toNat_natCast,etas,elDef,m53,m68,o53,m53]<;>first|omega|grind)|grind [inK,m53,m68,o53,m53]))) ?_<;>conv=>whnf)|(refine Gd.mk (fun h=>?_)<;>(try simp [etas,elDef,-List.getD_eq_getElem?_getD] at h)<;>conv=>whnf)|(refine And.intro ?_ ?_<;>conv=>whnf)|exact True.intro|(intro;conv=>whnf)
  · exact leafB hK (eqD_no.2 (by grind))
  refine aloop_intro Nat (fun k => k ≤ a.length ∧ ∀ j, j < k → a.getD j default = b.getD j default) (fun k => a.length - k) (fun k => [(5, .int .i64 k)]) (fun _ => []) [] 0 [] [] (by simp) ?_ (by exact sgOk_of (by rfl)) ?_
  · iterate 2 ((all_goals (conv=>whnf));(repeat' (first|exact trivial|rfl|(refine nilEq ?_;first|rfl|(simp only [*];done)|(simp [*];done)|grind)|apply And.intro|((first|refine intEq ?_|refine boolEq ?_|refine strEq ?_|refine psEq ?_|refine nilEq ?_|refine arrEq ?_);(try simp only [Int.toNat_natCast,etas,elDef]);first | done | omega | grind | (simp only [*]; done) | (simp [*]; done)))));(all_goals ((try simp only [Int.toNat_natCast,etas,elDef]);first | done | omega | grind | (simp only [*]; done) | (simp [*]; done)))
  rintro i ⟨hi, hj⟩
  conv => whnf
  repeat' first|(refine Cnd.mk (fun h=>?_) (fun h=>?_)<;>(try simp [etas,elDef,-List.getD_eq_getElem?_getD] at h)<;>conv=>whnf)|(refine Obl.mk (by first|omega|rfl|exact inK_byte _|(simp only [inK,Int.toNat_natCast,etas,elDef,m53,m68,o53,m53]<;>first|omega|grind)|grind [inK,m53,m68,o53,m53]) ?_<;>conv=>whnf)|(refine OblG.mk (by ((conv=>whnf);(repeat (first|(refine Bx.mk ?_)|(intro h;(try simp [etas,elDef,-List.getD_eq_getElem?_getD] at h);conv=>whnf)));(first|omega|rfl|exact inK_byte _|(simp only [inK,Int.toNat_natCast,etas,elDef,m53,m68,o53,m53]<;>first|omega|grind)|grind [inK,m53,m68,o53,m53]))) ?_<;>conv=>whnf)|(refine Gd.mk (fun h=>?_)<;>(try simp [etas,elDef,-List.getD_eq_getElem?_getD] at h)<;>conv=>whnf)|(refine And.intro ?_ ?_<;>conv=>whnf)|exact True.intro|(intro;conv=>whnf)
  · exact leafB hK (eqD_no.2 (by grind [eqD_no]))
  · exact ⟨i + 1, [], [], ⟨by omega, by grind [eqD_iff]⟩, by omega, by iterate 2 ((all_goals (conv=>whnf));(repeat' (first|exact trivial|rfl|(refine nilEq ?_;first|rfl|(simp only [*];done)|(simp [*];done)|grind)|apply And.intro|((first|refine intEq ?_|refine boolEq ?_|refine strEq ?_|refine psEq ?_|refine nilEq ?_|refine arrEq ?_);(try simp only [Int.toNat_natCast,etas,elDef]);first | done | omega | grind | (simp only [*]; done) | (simp [*]; done)))));(all_goals ((try simp only [Int.toNat_natCast,etas,elDef]);first | done | omega | grind | (simp only [*]; done) | (simp [*]; done))), (by exact sgOk_of (by rfl))⟩
  · exact leafB hK (eqD_iff.2 (listEq default (by omega) (by grind)))
theorem r53_68 : ∀ k, (CtrOK Tryz.prog 53 (.pure (Fk53 k)) ∧ Callable Tryz.prog 53) ∧ (CtrOK Tryz.prog 68 (.pure (Fk68 k)) ∧ Callable Tryz.prog 68) := by
  intro k
  induction k with
  | zero =>
    exact ⟨⟨⟨fun args o v h => by unfold Fk53 at h; split at h <;> cases h; first | trivial | (simp [v53, Scalar, Scalar2, Scalar1, stC, ndC, itC, chC, nwC]), fun args K h => by
        unfold pureC Fk53 at h; split at h
        · rename_i h1; split at h1 <;> cases h1; exact absurd (h.1 _ rfl).1 (Nat.not_lt_zero _)
        · exact h.elim⟩, callable Tryz.func53 rfl (by rfl)⟩, ⟨⟨fun args o v h => by unfold Fk68 at h; split at h <;> cases h; first | trivial | (simp [v68, Scalar, Scalar2, Scalar1, stC, ndC, itC, chC, nwC]), fun args K h => by
        unfold pureC Fk68 at h; split at h
        · rename_i h1; split at h1 <;> cases h1; exact absurd (h.1 _ rfl).1 (Nat.not_lt_zero _)
        · exact h.elim⟩, callable Tryz.func68 rfl (by rfl)⟩⟩
  | succ k ih =>
    refine ⟨?_, ?_⟩
    · refine pure_ok (E := E53 k) (mkE_cons s52 (mkE_cons ih.2 (mkE_nil tab_ok))) mix (O := O53) (F := (Fk53 (k + 1))) Tryz.func53 rfl (by rfl) (by kernel_rfl) (fun args o v h => ?_) (fun args o v h => ?_) (fun args o v h hbd hp K hK => ?_)
      · unfold Fk53 at h; split at h <;> cases h; first | trivial | (simp [v53, Scalar, Scalar2, Scalar1, stC, ndC, itC, chC, nwC])
      · unfold Fk53 at h; split at h <;> cases h; exact Nat.le_of_ble_eq_true rfl
      · unfold Fk53 at h; split at h
        case h_2 => cases h
        cases h
        exact a53 k ⟨_, _, _, _, _⟩ ⟨_, _, _, _, _⟩ (hp _ rfl).1 (by exact hbd) (hp _ rfl).2 K hK
    · refine pure_ok (E := E68 k) (mkE_cons ih.1 (mkE_nil tab_ok)) mix (O := O68) (F := (Fk68 (k + 1))) Tryz.func68 rfl (by rfl) (by kernel_rfl) (fun args o v h => ?_) (fun args o v h => ?_) (fun args o v h hbd hp K hK => ?_)
      · unfold Fk68 at h; split at h <;> cases h; first | trivial | (simp [v68, Scalar, Scalar2, Scalar1, stC, ndC, itC, chC, nwC])
      · unfold Fk68 at h; split at h <;> cases h; exact Nat.le_of_ble_eq_true rfl
      · unfold Fk68 at h; split at h
        case h_2 => cases h
        cases h
        exact a68 k _ _ (hp _ rfl).1 (by exact hbd) (hp _ rfl).2 K hK
theorem s53 : (CtrOK Tryz.prog 53 (.pure F53) ∧ Callable Tryz.prog 53) := by
  refine ⟨⟨fun args o v h => ?_, fun args K h => ?_⟩, (r53_68 0).1.2⟩
  · unfold F53 at h; split at h <;> cases h; first | trivial | (simp [v53, Scalar, Scalar2, Scalar1, stC, ndC, itC, chC, nwC])
  · unfold pureC F53 at h; split at h
    · rename_i h1; split at h1 <;> cases h1
      exact (r53_68 (m53 ⟨_, _, _, _, _⟩ ⟨_, _, _, _, _⟩ + 1)).1.1.2 _ K ⟨fun p hp => by cases hp; exact ⟨Nat.lt_succ_self _, trivial⟩, h.2⟩
    · exact h.elim
noncomputable def c34 (x : It) (m : Int) (K : AV → List AV → Prop) : Prop :=
    Obl ((0 ≤ m ∧ m ≤ 1048576) ∧ bdN x.node) (∀ r : Int, szOk m r (smN x.node ∧ (totN x.node : Int) ≤ 3 + 3 * (m - r)) → K (.int .i64 r) [])
noncomputable def C34 : List AV → (AV → List AV → Prop) → Prop
  | [.st [.str x_0, .int .i64 x_1, .int .i64 x_2_0, .int .i64 x_2_1, .str x_2_2, .ps .str x_2_3, .ps .node x_2_4], .int .i64 m], K => c34 ⟨x_0, x_1, ⟨x_2_0, x_2_1, x_2_2, x_2_3, x_2_4⟩⟩ m K
  | _, _ => False
noncomputable def E34 : Ctx := mkE tab [(36, .gen .ps C36)]
noncomputable def O34 : Nat → List DI := ordL []
theorem a34 (x : It) (m : Int) (hb : BdAs [.st (itC x), .int .i64 m]) (K : AV → List AV → Prop) (h : c34 x m K) : abody E34 O34 .ps Tryz.f34 (Tryz.f34.body.getD .skip) [.st (itC x), .int .i64 m] K := by
  simp only [BdAs, BdA, BdL, BdC, MX, ndC, shC, itC, stC, opC, chC, nwC, flC, rqC, rsC, enc, List.cons_append, List.nil_append, and_true, true_and] at hb
  unfold c34 at h
  obtain ⟨⟨hm, hx⟩, hK⟩ := h
  conv => whnf
  repeat' first|(refine Cnd.mk (fun h=>?_) (fun h=>?_)<;>(try simp [etas,elDef,-List.getD_eq_getElem?_getD] at h)<;>conv=>whnf)|(refine Obl.mk (by first|omega|rfl|exact inK_byte _|(simp only [inK,Int.toNat_natCast,etas,elDef,m36]<;>first|omega|grind)|grind [inK,m36]) ?_<;>conv=>whnf)|(refine OblG.mk (by ((conv=>whnf);(repeat (first|(refine Bx.mk ?_)|(intro h;(try simp [etas,elDef,-List.getD_eq_getElem?_getD] at h);conv=>whnf)));(first|omega|rfl|exact inK_byte _|(simp only [inK,Int.toNat_natCast,etas,elDef,m36]<;>first|omega|grind)|grind [inK,m36]))) ?_<;>conv=>whnf)|(refine Gd.mk (fun h=>?_)<;>(try simp [etas,elDef,-List.getD_eq_getElem?_getD] at h)<;>conv=>whnf)|(refine And.intro ?_ ?_<;>conv=>whnf)|exact True.intro|(intro;conv=>whnf)
  · exact hK _ (.inl rfl)
  · exact hK _ (.inl rfl)
  · rename_i r hr
    have h5 : smN x.node ∧ (totN x.node : Int) ≤ 3 + 3 * (m - x.name.length - r) := by
      rcases hr with h | h
      · omega
      · have h6 := h.2.2
        simp only [nd_eta] at h6
        exact h6
    have h6 := h5.2
    exact hK _ (.inr ⟨by omega, by omega, h5.1, by omega⟩)
theorem s34 : (CtrOK Tryz.prog 34 (.gen .ps C34) ∧ Callable Tryz.prog 34) := by
  refine gen_ok (E := E34) (mkE_cons s36 (mkE_nil tab_ok)) mix (O := O34) (C := C34) (own := .ps) Tryz.func34 rfl (by rfl) (by kernel_rfl) (fun args K h hbd => ?_)
  unfold C34 at h; split at h
  case h_2 => exact h.elim
  exact ⟨Nat.le_of_ble_eq_true rfl, a34 ⟨_, _, ⟨_, _, _, _, _⟩⟩ _ (by exact hbd) _ h⟩
noncomputable def c15 (l : List It) (m : Int) (K : AV → List AV → Prop) : Prop :=
    Obl ((0 ≤ m ∧ m ≤ 1048576) ∧ ∀ x ∈ l, bdN x.node) (∀ r : Int, szOk m r (smIs l ∧ (totIs l : Int) ≤ 5 * (m - r)) → K (.int .i64 r) [])
noncomputable def C15 : List AV → (AV → List AV → Prop) → Prop
  | [.ps .item l, .int .i64 m], K => c15 l m K
  | _, _ => False
noncomputable def E15 : Ctx := mkE tab [(34, .gen .ps C34)]
noncomputable def O15 : Nat → List DI := ordL []
theorem a15 (l : List It) (m : Int) (hb : BdAs [.ps .item l, .int .i64 m]) (K : AV → List AV → Prop) (h : c15 l m K) : abody E15 O15 .ps Tryz.f15 (Tryz.f15.body.getD .skip) [.ps .item l, .int .i64 m] K := by
  simp only [BdAs, BdA, BdL, BdC, MX, ndC, shC, itC, stC, opC, chC, nwC, flC, rqC, rsC, enc, List.cons_append, List.nil_append, and_true, true_and] at hb
  unfold c15 at h
  obtain ⟨⟨hm, hx⟩, hK⟩ := h
  have hkid : ∀ j, j < l.length → bdN (l.getD j default).node := fun j hj => by rw [getD_get hj]; exact hx _ (List.getElem_mem hj)
  conv => whnf
  repeat' first|(refine Cnd.mk (fun h=>?_) (fun h=>?_)<;>(try simp [etas,elDef,-List.getD_eq_getElem?_getD] at h)<;>conv=>whnf)|(refine Obl.mk (by first|omega|rfl|exact inK_byte _|(simp only [inK,Int.toNat_natCast,etas,elDef]<;>first|omega|grind)|grind [inK]) ?_<;>conv=>whnf)|(refine OblG.mk (by ((conv=>whnf);(repeat (first|(refine Bx.mk ?_)|(intro h;(try simp [etas,elDef,-List.getD_eq_getElem?_getD] at h);conv=>whnf)));(first|omega|rfl|exact inK_byte _|(simp only [inK,Int.toNat_natCast,etas,elDef]<;>first|omega|grind)|grind [inK]))) ?_<;>conv=>whnf)|(refine Gd.mk (fun h=>?_)<;>(try simp [etas,elDef,-List.getD_eq_getElem?_getD] at h)<;>conv=>whnf)|(refine And.intro ?_ ?_<;>conv=>whnf)|exact True.intro|(intro;conv=>whnf)
  · exact hK _ (.inl rfl)
  have hz0 : totIs (l.take 0) = 0 := rfl
  refine aloop_intro (Nat × Int) (fun ⟨i, q⟩ => i ≤ l.length ∧ 0 ≤ q ∧ q ≤ m ∧ (∀ j, j < i → smN (l.getD j default).node) ∧ (totIs (l.take i) : Int) + 5 * q ≤ 5 * (m - l.length) + 5 * i) (fun ⟨i, q⟩ => l.length - i) (fun ⟨i, q⟩ => [(5, .int .i64 i), (1, .int .i64 q)]) (fun ⟨i, q⟩ => []) [] (0, m - l.length) [] [] ?_ ?_ (by exact sgOk_of (by rfl)) ?_
  · first | (simp; done) | (simp; assumption) | (simp only; grind)
  · iterate 2 ((all_goals (conv=>whnf));(repeat' (first|exact trivial|rfl|(refine nilEq ?_;first|rfl|(simp only [*];done)|(simp [*];done)|grind)|apply And.intro|((first|refine intEq ?_|refine boolEq ?_|refine strEq ?_|refine psEq ?_|refine nilEq ?_|refine arrEq ?_);(try simp only [Int.toNat_natCast,etas,elDef]);first | done | omega | grind | (simp only [*]; done) | (simp [*]; done)))));(all_goals ((try simp only [Int.toNat_natCast,etas,elDef]);first | done | omega | grind | (simp only [*]; done) | (simp [*]; done)))
  rintro ⟨i, q⟩ hinv
  dsimp only at hinv
  conv => whnf
  obtain ⟨hi1, hi2, hi3, hi4, hi5⟩ := hinv
  have htk := fun h => totIs_take (l := l) (i := i) h
  repeat' first|(refine Cnd.mk (fun h=>?_) (fun h=>?_)<;>(try simp [etas,elDef,-List.getD_eq_getElem?_getD] at h)<;>conv=>whnf)|(refine Obl.mk (by first|omega|rfl|exact inK_byte _|(simp only [inK,Int.toNat_natCast,etas,elDef]<;>first|omega|grind)|grind [inK]) ?_<;>conv=>whnf)|(refine OblG.mk (by ((conv=>whnf);(repeat (first|(refine Bx.mk ?_)|(intro h;(try simp [etas,elDef,-List.getD_eq_getElem?_getD] at h);conv=>whnf)));(first|omega|rfl|exact inK_byte _|(simp only [inK,Int.toNat_natCast,etas,elDef]<;>first|omega|grind)|grind [inK]))) ?_<;>conv=>whnf)|(refine Gd.mk (fun h=>?_)<;>(try simp [etas,elDef,-List.getD_eq_getElem?_getD] at h)<;>conv=>whnf)|(refine And.intro ?_ ?_<;>conv=>whnf)|exact True.intro|(intro;conv=>whnf)
  · exact hK _ (.inl rfl)
  · rename_i _ r hr
    have htk := htk ‹_›
    have h5 : smN (l.getD i default).node ∧ (totN (l.getD i default).node : Int) ≤ 3 + 3 * (q - r) := by
      rcases hr with h | h
      · omega
      · have h6 := h.2.2
        simp only [nd_eta, getD_nat] at h6
        exact h6
    have h6 := h5.2
    exact ⟨(i + 1, r), [], [], ⟨by omega, by omega, by omega, fun j hj => by rcases Nat.lt_succ_iff_lt_or_eq.1 hj with h | h; exact hi4 j h; rw [h]; exact h5.1, by rw [htk]; push_cast; omega⟩, by simp only; omega, by iterate 2 ((all_goals (conv=>whnf));(repeat' (first|exact trivial|rfl|(refine nilEq ?_;first|rfl|(simp only [*];done)|(simp [*];done)|grind)|apply And.intro|((first|refine intEq ?_|refine boolEq ?_|refine strEq ?_|refine psEq ?_|refine nilEq ?_|refine arrEq ?_);(try simp only [Int.toNat_natCast,etas,elDef]);first | done | omega | grind | (simp only [*]; done) | (simp [*]; done)))));(all_goals ((try simp only [Int.toNat_natCast,etas,elDef]);first | done | omega | grind | (simp only [*]; done) | (simp [*]; done))), (by exact sgOk_of (by rfl))⟩
  · have e1 : l.take i = l := List.take_of_length_le (by omega)
    rw [e1] at hi5
    exact hK _ (.inr ⟨by omega, by omega, smIs_of (by omega) fun j hj => hi4 j (by omega), by omega⟩)
theorem s15 : (CtrOK Tryz.prog 15 (.gen .ps C15) ∧ Callable Tryz.prog 15) := by
  refine gen_ok (E := E15) (mkE_cons s34 (mkE_nil tab_ok)) mix (O := O15) (C := C15) (own := .ps) Tryz.func15 rfl (by rfl) (by kernel_rfl) (fun args K h hbd => ?_)
  unfold C15 at h; split at h
  case h_2 => exact h.elim
  exact ⟨Nat.le_of_ble_eq_true rfl, a15 _ _ (by exact hbd) _ h⟩
noncomputable def c4 (s : Sto) (m : Int) (K : AV → List AV → Prop) : Prop :=
    Obl ((0 ≤ m ∧ m ≤ 1048576) ∧ ∀ x ∈ s.items, bdN x.node) (∀ r : Int, szOk m r (smIs s.items ∧ (totIs s.items : Int) ≤ 5 * (m - r)) → K (.int .i64 r) [])
noncomputable def C4 : List AV → (AV → List AV → Prop) → Prop
  | [.st [.ps .item s_0, .int .i64 s_1], .int .i64 m], K => c4 ⟨s_0, s_1⟩ m K
  | _, _ => False
noncomputable def E4 : Ctx := mkE tab [(15, .gen .ps C15)]
noncomputable def O4 : Nat → List DI := ordL []
theorem a4 (s : Sto) (m : Int) (hb : BdAs [.st (stC s), .int .i64 m]) (K : AV → List AV → Prop) (h : c4 s m K) : abody E4 O4 .ps Tryz.f4 (Tryz.f4.body.getD .skip) [.st (stC s), .int .i64 m] K := by
  simp only [BdAs, BdA, BdL, BdC, MX, ndC, shC, itC, stC, opC, chC, nwC, flC, rqC, rsC, enc, List.cons_append, List.nil_append, and_true, true_and] at hb
  unfold c4 at h
  obtain ⟨⟨hm, hx⟩, hK⟩ := h
  conv => whnf
  repeat' first|(refine Cnd.mk (fun h=>?_) (fun h=>?_)<;>(try simp [etas,elDef,-List.getD_eq_getElem?_getD] at h)<;>conv=>whnf)|(refine Obl.mk (by first|omega|rfl|exact inK_byte _|(simp only [inK,Int.toNat_natCast,etas,elDef]<;>first|omega|grind)|grind [inK]) ?_<;>conv=>whnf)|(refine OblG.mk (by ((conv=>whnf);(repeat (first|(refine Bx.mk ?_)|(intro h;(try simp [etas,elDef,-List.getD_eq_getElem?_getD] at h);conv=>whnf)));(first|omega|rfl|exact inK_byte _|(simp only [inK,Int.toNat_natCast,etas,elDef]<;>first|omega|grind)|grind [inK]))) ?_<;>conv=>whnf)|(refine Gd.mk (fun h=>?_)<;>(try simp [etas,elDef,-List.getD_eq_getElem?_getD] at h)<;>conv=>whnf)|(refine And.intro ?_ ?_<;>conv=>whnf)|exact True.intro|(intro;conv=>whnf)
  · exact hK _ (.inl rfl)
  · rename_i r hr
    exact hK _ hr
theorem s4 : (CtrOK Tryz.prog 4 (.gen .ps C4) ∧ Callable Tryz.prog 4) := by
  refine gen_ok (E := E4) (mkE_cons s15 (mkE_nil tab_ok)) mix (O := O4) (C := C4) (own := .ps) Tryz.func4 rfl (by rfl) (by kernel_rfl) (fun args K h hbd => ?_)
  unfold C4 at h; split at h
  case h_2 => exact h.elim
  exact ⟨Nat.le_of_ble_eq_true rfl, a4 ⟨_, _⟩ _ (by exact hbd) _ h⟩
noncomputable def c43 (x : It) (K : AV → List AV → Prop) : Prop :=
    Obl (smN x.node) (K (.st (itC x)) [])
noncomputable def c21 (l : List It) (K : AV → List AV → Prop) : Prop :=
    Obl (smIs l) (K (.ps .item l) [])
noncomputable def c7 (s : Sto) (K : AV → List AV → Prop) : Prop :=
    Obl (smIs s.items) (K (.st (stC s)) [])
noncomputable def v51 (a : It) (b : It) : AV := .bool (eqD a b)
noncomputable def o51 (a : It) (b : It) : Prop := True
noncomputable def F51 : List AV → QR
  | [.st [.str a_0, .int .i64 a_1, .int .i64 a_2_0, .int .i64 a_2_1, .str a_2_2, .ps .str a_2_3, .ps .node a_2_4], .st [.str b_0, .int .i64 b_1, .int .i64 b_2_0, .int .i64 b_2_1, .str b_2_2, .ps .str b_2_3, .ps .node b_2_4]] => some (none, v51 ⟨a_0, a_1, ⟨a_2_0, a_2_1, a_2_2, a_2_3, a_2_4⟩⟩ ⟨b_0, b_1, ⟨b_2_0, b_2_1, b_2_2, b_2_3, b_2_4⟩⟩)
  | _ => none
noncomputable def E51 : Ctx := mkE tab [(53, .pure F53)]
noncomputable def O51 : Nat → List DI := ordL []
theorem a51 (a : It) (b : It) (hb : BdAs [.st (itC a), .st (itC b)]) (ho : o51 a b) (K : AV → List AV → Prop) (hK : K (v51 a b) []) : abody E51 O51 .ps Tryz.f51 (Tryz.f51.body.getD .skip) [.st (itC a), .st (itC b)] K := by
  simp only [BdAs, BdA, BdL, BdC, MX, ndC, shC, itC, stC, opC, chC, nwC, flC, rqC, rsC, enc, List.cons_append, List.nil_append, and_true, true_and] at hb
  unfold v51 at hK
  conv => whnf
  repeat' first|(refine Cnd.mk (fun h=>?_) (fun h=>?_)<;>(try simp [etas,elDef,-List.getD_eq_getElem?_getD] at h)<;>conv=>whnf)|(refine Obl.mk (by first|omega|rfl|exact inK_byte _|(simp only [inK,Int.toNat_natCast,etas,elDef,o53,m53]<;>first|omega|grind)|grind [inK,o53,m53]) ?_<;>conv=>whnf)|(refine OblG.mk (by ((conv=>whnf);(repeat (first|(refine Bx.mk ?_)|(intro h;(try simp [etas,elDef,-List.getD_eq_getElem?_getD] at h);conv=>whnf)));(first|omega|rfl|exact inK_byte _|(simp only [inK,Int.toNat_natCast,etas,elDef,o53,m53]<;>first|omega|grind)|grind [inK,o53,m53]))) ?_<;>conv=>whnf)|(refine Gd.mk (fun h=>?_)<;>(try simp [etas,elDef,-List.getD_eq_getElem?_getD] at h)<;>conv=>whnf)|(refine And.intro ?_ ?_<;>conv=>whnf)|exact True.intro|(intro;conv=>whnf)
  · exact leafB hK (eqD_no.2 (by grind))
  · exact leafB hK (eqD_no.2 (by grind))
  · exact leafB hK (eqD_no.2 (by grind [eqD_no]))
  · exact leafB hK (eqD_iff.2 (it_ext (by grind) (by grind) (by grind [eqD_iff])))
theorem s51 : (CtrOK Tryz.prog 51 (.pure F51) ∧ Callable Tryz.prog 51) := by
  refine pure_ok (E := E51) (mkE_cons s53 (mkE_nil tab_ok)) mix (O := O51) (F := F51) Tryz.func51 rfl (by rfl) (by kernel_rfl) (fun args o v h => ?_) (fun args o v h => ?_) (fun args o v h hbd hp K hK => ?_)
  · unfold F51 at h; split at h <;> cases h; first | trivial | (simp [v51, Scalar, Scalar2, Scalar1, stC, ndC, itC, chC, nwC])
  · unfold F51 at h; split at h <;> cases h; exact Nat.le_of_ble_eq_true rfl
  · unfold F51 at h; split at h
    case h_2 => cases h
    cases h
    exact a51 ⟨_, _, ⟨_, _, _, _, _⟩⟩ ⟨_, _, ⟨_, _, _, _, _⟩⟩ (by exact hbd) trivial K hK
noncomputable def v27 (a : List It) (b : List It) : AV := .bool (eqD a b)
noncomputable def o27 (a : List It) (b : List It) : Prop := True
noncomputable def F27 : List AV → QR
  | [.ps .item a, .ps .item b] => some (none, v27 a b)
  | _ => none
noncomputable def E27 : Ctx := mkE tab [(51, .pure F51)]
noncomputable def O27 : Nat → List DI := ordL [(6, [.q 0, .q 1, .q 2, .q 3, .q 4, .q 5, .q 6, .q 7, .q 8, .q 9])]
theorem a27 (a : List It) (b : List It) (hb : BdAs [.ps .item a, .ps .item b]) (ho : o27 a b) (K : AV → List AV → Prop) (hK : K (v27 a b) []) : abody E27 O27 .ps Tryz.f27 (Tryz.f27.body.getD .skip) [.ps .item a, .ps .item b] K := by
  simp only [BdAs, BdA, BdL, BdC, MX, ndC, shC, itC, stC, opC, chC, nwC, flC, rqC, rsC, enc, List.cons_append, List.nil_append, and_true, true_and] at hb
  unfold v27 at hK
  conv => whnf
  repeat' first|(refine Cnd.mk (fun h=>?_) (fun h=>?_)<;>(try simp [etas,elDef,-List.getD_eq_getElem?_getD] at h)<;>conv=>whnf)|(refine Obl.mk (by first|omega|rfl|exact inK_byte _|(simp only [inK,Int.toNat_natCast,etas,elDef]<;>first|omega|grind)|grind [inK]) ?_<;>conv=>whnf)|(refine OblG.mk (by ((conv=>whnf);(repeat (first|(refine Bx.mk ?_)|(intro h;(try simp [etas,elDef,-List.getD_eq_getElem?_getD] at h);conv=>whnf)));(first|omega|rfl|exact inK_byte _|(simp only [inK,Int.toNat_natCast,etas,elDef]<;>first|omega|grind)|grind [inK]))) ?_<;>conv=>whnf)|(refine Gd.mk (fun h=>?_)<;>(try simp [etas,elDef,-List.getD_eq_getElem?_getD] at h)<;>conv=>whnf)|(refine And.intro ?_ ?_<;>conv=>whnf)|exact True.intro|(intro;conv=>whnf)
  · exact leafB hK (eqD_no.2 (by grind))
  refine aloop_intro Nat (fun k => k ≤ a.length ∧ ∀ j, j < k → a.getD j default = b.getD j default) (fun k => a.length - k) (fun k => [(5, .int .i64 k)]) (fun _ => []) [] 0 [] [] (by simp) ?_ (by exact sgOk_of (by rfl)) ?_
  · iterate 2 ((all_goals (conv=>whnf));(repeat' (first|exact trivial|rfl|(refine nilEq ?_;first|rfl|(simp only [*];done)|(simp [*];done)|grind)|apply And.intro|((first|refine intEq ?_|refine boolEq ?_|refine strEq ?_|refine psEq ?_|refine nilEq ?_|refine arrEq ?_);(try simp only [Int.toNat_natCast,etas,elDef]);first | done | omega | grind | (simp only [*]; done) | (simp [*]; done)))));(all_goals ((try simp only [Int.toNat_natCast,etas,elDef]);first | done | omega | grind | (simp only [*]; done) | (simp [*]; done)))
  rintro i ⟨hi, hj⟩
  conv => whnf
  repeat' first|(refine Cnd.mk (fun h=>?_) (fun h=>?_)<;>(try simp [etas,elDef,-List.getD_eq_getElem?_getD] at h)<;>conv=>whnf)|(refine Obl.mk (by first|omega|rfl|exact inK_byte _|(simp only [inK,Int.toNat_natCast,etas,elDef]<;>first|omega|grind)|grind [inK]) ?_<;>conv=>whnf)|(refine OblG.mk (by ((conv=>whnf);(repeat (first|(refine Bx.mk ?_)|(intro h;(try simp [etas,elDef,-List.getD_eq_getElem?_getD] at h);conv=>whnf)));(first|omega|rfl|exact inK_byte _|(simp only [inK,Int.toNat_natCast,etas,elDef]<;>first|omega|grind)|grind [inK]))) ?_<;>conv=>whnf)|(refine Gd.mk (fun h=>?_)<;>(try simp [etas,elDef,-List.getD_eq_getElem?_getD] at h)<;>conv=>whnf)|(refine And.intro ?_ ?_<;>conv=>whnf)|exact True.intro|(intro;conv=>whnf)
  · exact leafB hK (eqD_no.2 (by grind [eqD_no]))
  · exact ⟨i + 1, [], [], ⟨by omega, by grind [eqD_iff]⟩, by omega, by iterate 2 ((all_goals (conv=>whnf));(repeat' (first|exact trivial|rfl|(refine nilEq ?_;first|rfl|(simp only [*];done)|(simp [*];done)|grind)|apply And.intro|((first|refine intEq ?_|refine boolEq ?_|refine strEq ?_|refine psEq ?_|refine nilEq ?_|refine arrEq ?_);(try simp only [Int.toNat_natCast,etas,elDef]);first | done | omega | grind | (simp only [*]; done) | (simp [*]; done)))));(all_goals ((try simp only [Int.toNat_natCast,etas,elDef]);first | done | omega | grind | (simp only [*]; done) | (simp [*]; done))), (by exact sgOk_of (by rfl))⟩
  · exact leafB hK (eqD_iff.2 (listEq default (by omega) (by grind)))
theorem s27 : (CtrOK Tryz.prog 27 (.pure F27) ∧ Callable Tryz.prog 27) := by
  refine pure_ok (E := E27) (mkE_cons s51 (mkE_nil tab_ok)) mix (O := O27) (F := F27) Tryz.func27 rfl (by rfl) (by kernel_rfl) (fun args o v h => ?_) (fun args o v h => ?_) (fun args o v h hbd hp K hK => ?_)
  · unfold F27 at h; split at h <;> cases h; first | trivial | (simp [v27, Scalar, Scalar2, Scalar1, stC, ndC, itC, chC, nwC])
  · unfold F27 at h; split at h <;> cases h; exact Nat.le_of_ble_eq_true rfl
  · unfold F27 at h; split at h
    case h_2 => cases h
    cases h
    exact a27 _ _ (by exact hbd) trivial K hK
noncomputable def v10 (a : Sto) (b : Sto) : AV := .bool (eqD a b)
noncomputable def o10 (a : Sto) (b : Sto) : Prop := True
noncomputable def F10 : List AV → QR
  | [.st [.ps .item a_0, .int .i64 a_1], .st [.ps .item b_0, .int .i64 b_1]] => some (none, v10 ⟨a_0, a_1⟩ ⟨b_0, b_1⟩)
  | _ => none
noncomputable def E10 : Ctx := mkE tab [(27, .pure F27)]
noncomputable def O10 : Nat → List DI := ordL []
theorem a10 (a : Sto) (b : Sto) (hb : BdAs [.st (stC a), .st (stC b)]) (ho : o10 a b) (K : AV → List AV → Prop) (hK : K (v10 a b) []) : abody E10 O10 .ps Tryz.f10 (Tryz.f10.body.getD .skip) [.st (stC a), .st (stC b)] K := by
  simp only [BdAs, BdA, BdL, BdC, MX, ndC, shC, itC, stC, opC, chC, nwC, flC, rqC, rsC, enc, List.cons_append, List.nil_append, and_true, true_and] at hb
  unfold v10 at hK
  conv => whnf
  repeat' first|(refine Cnd.mk (fun h=>?_) (fun h=>?_)<;>(try simp [etas,elDef,-List.getD_eq_getElem?_getD] at h)<;>conv=>whnf)|(refine Obl.mk (by first|omega|rfl|exact inK_byte _|(simp only [inK,Int.toNat_natCast,etas,elDef]<;>first|omega|grind)|grind [inK]) ?_<;>conv=>whnf)|(refine OblG.mk (by ((conv=>whnf);(repeat (first|(refine Bx.mk ?_)|(intro h;(try simp [etas,elDef,-List.getD_eq_getElem?_getD] at h);conv=>whnf)));(first|omega|rfl|exact inK_byte _|(simp only [inK,Int.toNat_natCast,etas,elDef]<;>first|omega|grind)|grind [inK]))) ?_<;>conv=>whnf)|(refine Gd.mk (fun h=>?_)<;>(try simp [etas,elDef,-List.getD_eq_getElem?_getD] at h)<;>conv=>whnf)|(refine And.intro ?_ ?_<;>conv=>whnf)|exact True.intro|(intro;conv=>whnf)
  · exact leafB hK (eqD_no.2 (by grind [eqD_no]))
  · exact leafB hK (eqD_no.2 (by grind))
  · exact leafB hK (eqD_iff.2 (sto_ext (by grind [eqD_iff]) (by grind)))
theorem s10 : (CtrOK Tryz.prog 10 (.pure F10) ∧ Callable Tryz.prog 10) := by
  refine pure_ok (E := E10) (mkE_cons s27 (mkE_nil tab_ok)) mix (O := O10) (F := F10) Tryz.func10 rfl (by rfl) (by kernel_rfl) (fun args o v h => ?_) (fun args o v h => ?_) (fun args o v h hbd hp K hK => ?_)
  · unfold F10 at h; split at h <;> cases h; first | trivial | (simp [v10, Scalar, Scalar2, Scalar1, stC, ndC, itC, chC, nwC])
  · unfold F10 at h; split at h <;> cases h; exact Nat.le_of_ble_eq_true rfl
  · unfold F10 at h; split at h
    case h_2 => cases h
    cases h
    exact a10 ⟨_, _⟩ ⟨_, _⟩ (by exact hbd) trivial K hK
end Go.Rs

