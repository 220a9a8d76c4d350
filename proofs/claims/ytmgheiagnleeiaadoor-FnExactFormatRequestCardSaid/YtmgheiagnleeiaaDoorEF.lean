import Derived.Test.YtmgheiagnleeiaaDoorCK
import Derived.Test.YtmgheiagnleeiaaDoorCG
import Derived.Test.YtmgheiagnleeiaaDoorMB
import Derived.Test.YtmgheiagnleeiaaDoorDelB
import Derived.Test.YtmgheiagnleeiaaDoorMG
import Derived.Test.YtmgheiagnleeiaaDoorMH
set_option linter.all false
set_option linter.unusedSimpArgs false
set_option linter.unusedVariables false
namespace Go.Rs
open Go.Proofs
set_option maxRecDepth 100000
noncomputable def c9 (l : List Bs) (m : Int) (K : AV → List AV → Prop) : Prop :=
    Obl ((0 ≤ m ∧ m ≤ 1048576) ∧ ∀ x ∈ l, x.length ≤ 140737488355328) (∀ r : Int, szOk m r (l.length ≤ 2097152 ∧ (l.length : Int) ≤ m - r) → K (.int .i64 r) [])
noncomputable def C9 : List AV → (AV → List AV → Prop) → Prop
  | [.ps .str l, .int .i64 m], K => c9 l m K
  | _, _ => False
noncomputable def E9 : Ctx := mkE tab []
noncomputable def O9 : Nat → List DI := ordL []
theorem a9 (l : List Bs) (m : Int) (hb : BdAs [.ps .str l, .int .i64 m]) (K : AV → List AV → Prop) (h : c9 l m K) : abody E9 O9 .ps Tryd.f9 (Tryd.f9.body.getD .skip) [.ps .str l, .int .i64 m] K := by
  simp only [BdAs, BdA, BdL, BdC, MX, ndC, shC, itC, stC, opC, chC, nwC, flC, rqC, rsC, enc, List.cons_append, List.nil_append, and_true, true_and] at hb
  unfold c9 at h
  obtain ⟨⟨hm, hx⟩, hK⟩ := h
  conv => whnf
  repeat' first|((first|refine Cnd.mk (fun h=>?_) (fun h=>?_)|refine Gd.mk (fun h=>?_))<;>(try simp [etas,elDef,-List.getD_eq_getElem?_getD] at h)<;>conv=>whnf)|((first|refine Obl.mk (by first|omega|rfl|exact inK_byte _|(simp only [inK,Int.toNat_natCast,etas,elDef]<;>first|omega|grind)|grind [inK]) ?_|refine OblG.mk (by ((conv=>whnf);(repeat (first|refine Bx.mk ?_|(intro h;(try simp [etas,elDef,-List.getD_eq_getElem?_getD] at h);conv=>whnf)));(first|omega|rfl|exact inK_byte _|(simp only [inK,Int.toNat_natCast,etas,elDef]<;>first|omega|grind)|grind [inK]))) ?_|refine And.intro ?_ ?_)<;>conv=>whnf)|exact True.intro|(intro;conv=>whnf)
  · exact hK _ (.inl rfl)
  refine aloop_intro (Nat × Int) (fun ⟨i, q⟩ => i ≤ l.length ∧ 0 ≤ q ∧ q ≤ m - l.length) (fun ⟨i, q⟩ => l.length - i) (fun ⟨i, q⟩ => [(5, .int .i64 i), (1, .int .i64 q)]) (fun ⟨i, q⟩ => []) [] (0, m - l.length) [] [] ?_ ?_ (by exact sgOk_of (by rfl)) ?_
  · first | (simp; done) | (simp; assumption) | (simp only; grind)
  · iterate 2 ((all_goals (conv=>whnf));(repeat' (first|exact trivial|rfl|(refine nilEq ?_;first|rfl|(simp only [*];done)|(simp [*];done)|grind)|apply And.intro|((first|apply intEq|apply boolEq|apply strEq|apply psEq|apply nilEq|apply arrEq);(try simp only [Int.toNat_natCast,etas,elDef]);first | done | omega | grind | (simp only [*]; done) | (simp [*]; done)))));(all_goals ((try simp only [Int.toNat_natCast,etas,elDef]);first | done | omega | grind | (simp only [*]; done) | (simp [*]; done)))
  rintro ⟨i, q⟩ hinv
  dsimp only at hinv
  conv => whnf
  obtain ⟨hi1, hi2, hi3⟩ := hinv
  have hx2 := bdT_getD hx (i : Int).toNat
  repeat' first|((first|refine Cnd.mk (fun h=>?_) (fun h=>?_)|refine Gd.mk (fun h=>?_))<;>(try simp [etas,elDef,-List.getD_eq_getElem?_getD] at h)<;>conv=>whnf)|((first|refine Obl.mk (by first|omega|rfl|exact inK_byte _|(simp only [inK,Int.toNat_natCast,etas,elDef]<;>first|omega|grind)|grind [inK]) ?_|refine OblG.mk (by ((conv=>whnf);(repeat (first|refine Bx.mk ?_|(intro h;(try simp [etas,elDef,-List.getD_eq_getElem?_getD] at h);conv=>whnf)));(first|omega|rfl|exact inK_byte _|(simp only [inK,Int.toNat_natCast,etas,elDef]<;>first|omega|grind)|grind [inK]))) ?_|refine And.intro ?_ ?_)<;>conv=>whnf)|exact True.intro|(intro;conv=>whnf)
  · exact hK _ (.inl rfl)
  · exact ⟨(i + 1, q - (l.getD i []).length), [], [], ⟨by omega, by simp_all, by omega⟩, by simp only; omega, by iterate 2 ((all_goals (conv=>whnf));(repeat' (first|exact trivial|rfl|(refine nilEq ?_;first|rfl|(simp only [*];done)|(simp [*];done)|grind)|apply And.intro|((first|apply intEq|apply boolEq|apply strEq|apply psEq|apply nilEq|apply arrEq);(try simp only [Int.toNat_natCast,etas,elDef]);first | done | omega | grind | (simp only [*]; done) | (simp [*]; done)))));(all_goals ((try simp only [Int.toNat_natCast,etas,elDef]);first | done | omega | grind | (simp only [*]; done) | (simp [*]; done))), (by exact sgOk_of (by rfl))⟩
  · exact hK _ (.inr ⟨by omega, by omega, by omega, by omega⟩)
theorem s9 : (CtrOK Tryd.prog 9 (.gen .ps C9) ∧ Callable Tryd.prog 9) := by
  refine gen_ok (E := E9) (mkE_nil tab_ok) mix (O := O9) (C := C9) (own := .ps) Tryd.func9 rfl (by rfl) (by kernel_rfl) (fun args K h hbd => ?_)
  unfold C9 at h; split at h
  case h_2 => exact h.elim
  exact ⟨Nat.le_of_ble_eq_true rfl, a9 _ _ (by exact hbd) _ h⟩
noncomputable def c10 (n : Nd) (m : Int) (K : AV → List AV → Prop) : Prop :=
    Obl ((0 ≤ m ∧ m ≤ 1048576) ∧ bdN n) (∀ r : Int, szOk m r (smN n ∧ (totN n : Int) ≤ 3 + 3 * (m - r)) → K (.int .i64 r) [])
noncomputable def m10 (n : Nd) (m : Int) : Nat := SizeOf.sizeOf n
noncomputable def C10 : List AV → (AV → List AV → Prop) → Prop
  | [.st [.int .i64 n_0, .int .i64 n_1, .str n_2, .ps .str n_3, .ps .node n_4], .int .i64 m], K => c10 ⟨n_0, n_1, n_2, n_3, n_4⟩ m K
  | _, _ => False
noncomputable def Ck10 (k : Nat) : List AV → (AV → List AV → Prop) → Prop
  | [.st [.int .i64 n_0, .int .i64 n_1, .str n_2, .ps .str n_3, .ps .node n_4], .int .i64 m], K => Obl (m10 ⟨n_0, n_1, n_2, n_3, n_4⟩ m < k) (c10 ⟨n_0, n_1, n_2, n_3, n_4⟩ m K)
  | _, _ => False
noncomputable def c28 (l : List Nd) (m : Int) (K : AV → List AV → Prop) : Prop :=
    Obl ((0 ≤ m ∧ m ≤ 1048576) ∧ ∀ x ∈ l, bdN x) (∀ r : Int, szOk m r (smNs l ∧ (totNs l : Int) ≤ 3 * (m - r)) → K (.int .i64 r) [])
noncomputable def m28 (l : List Nd) (m : Int) : Nat := SizeOf.sizeOf l
noncomputable def Ck28 (k : Nat) : List AV → (AV → List AV → Prop) → Prop
  | [.ps .node l, .int .i64 m], K => Obl (m28 l m < k) (c28 l m K)
  | _, _ => False
noncomputable def E10 (k : Nat) : Ctx := mkE tab [(9, .gen .ps C9), (28, .gen .ps (Ck28 k))]
noncomputable def O10 : Nat → List DI := ordL []
theorem a10 (k : Nat) (n : Nd) (m : Int) (hm : m10 n m < k + 1) (hb : BdAs [.st (ndC n), .int .i64 m]) (K : AV → List AV → Prop) (h : c10 n m K) : abody (E10 k) O10 .ps Tryd.f10 (Tryd.f10.body.getD .skip) [.st (ndC n), .int .i64 m] K := by
  simp only [BdAs, BdA, BdL, BdC, MX, ndC, shC, itC, stC, opC, chC, nwC, flC, rqC, rsC, enc, List.cons_append, List.nil_append, and_true, true_and] at hb
  unfold c10 at h
  unfold m10 at hm
  obtain ⟨⟨hm, hx⟩, hK⟩ := h
  have h1 := kids_size n
  have h2 := hx.names
  have h3 := hx.kids
  conv => whnf
  repeat' first|((first|refine Cnd.mk (fun h=>?_) (fun h=>?_)|refine Gd.mk (fun h=>?_))<;>(try simp [etas,elDef,-List.getD_eq_getElem?_getD] at h)<;>conv=>whnf)|((first|refine Obl.mk (by first|omega|rfl|exact inK_byte _|(simp only [inK,Int.toNat_natCast,etas,elDef,m10,m28,m28]<;>first|omega|grind)|grind [inK,m10,m28,m28]) ?_|refine OblG.mk (by ((conv=>whnf);(repeat (first|refine Bx.mk ?_|(intro h;(try simp [etas,elDef,-List.getD_eq_getElem?_getD] at h);conv=>whnf)));(first|omega|rfl|exact inK_byte _|(simp only [inK,Int.toNat_natCast,etas,elDef,m10,m28,m28]<;>first|omega|grind)|grind [inK,m10,m28,m28]))) ?_|refine And.intro ?_ ?_)<;>conv=>whnf)|exact True.intro|(intro;conv=>whnf)
  · exact hK _ (.inl rfl)
  · exact hK _ (.inl rfl)
  · exact hK _ (.inl rfl)
  · rename_i r1 hr1 _ r2 hr2
    have h5 : smNs n.kids ∧ (totNs n.kids : Int) ≤ 3 * (r1 - r2) := by rcases hr2 with h | h; omega; exact h.2.2
    have h6 := h5.2
    have h7 := totN_eq n
    exact hK _ (.inr ⟨by omega, by omega, smN_of (by omega) (by omega) h5.1, by omega⟩)
noncomputable def E28 (k : Nat) : Ctx := mkE tab [(10, .gen .ps (Ck10 k))]
noncomputable def O28 : Nat → List DI := ordL []
theorem a28 (k : Nat) (l : List Nd) (m : Int) (hm : m28 l m < k + 1) (hb : BdAs [.ps .node l, .int .i64 m]) (K : AV → List AV → Prop) (h : c28 l m K) : abody (E28 k) O28 .ps Tryd.f28 (Tryd.f28.body.getD .skip) [.ps .node l, .int .i64 m] K := by
  simp only [BdAs, BdA, BdL, BdC, MX, ndC, shC, itC, stC, opC, chC, nwC, flC, rqC, rsC, enc, List.cons_append, List.nil_append, and_true, true_and] at hb
  unfold c28 at h
  unfold m28 at hm
  obtain ⟨⟨hm, hx⟩, hK⟩ := h
  have hkid : ∀ j, j < l.length → SizeOf.sizeOf (l.getD j default) < k ∧ bdN (l.getD j default) := fun j hj => ⟨by have := mem_size hj; omega, bdN_getD hx hj⟩
  conv => whnf
  repeat' first|((first|refine Cnd.mk (fun h=>?_) (fun h=>?_)|refine Gd.mk (fun h=>?_))<;>(try simp [etas,elDef,-List.getD_eq_getElem?_getD] at h)<;>conv=>whnf)|((first|refine Obl.mk (by first|omega|rfl|exact inK_byte _|(simp only [inK,Int.toNat_natCast,etas,elDef,m10,m28,m10]<;>first|omega|grind)|grind [inK,m10,m28,m10]) ?_|refine OblG.mk (by ((conv=>whnf);(repeat (first|refine Bx.mk ?_|(intro h;(try simp [etas,elDef,-List.getD_eq_getElem?_getD] at h);conv=>whnf)));(first|omega|rfl|exact inK_byte _|(simp only [inK,Int.toNat_natCast,etas,elDef,m10,m28,m10]<;>first|omega|grind)|grind [inK,m10,m28,m10]))) ?_|refine And.intro ?_ ?_)<;>conv=>whnf)|exact True.intro|(intro;conv=>whnf)
  · exact hK _ (.inl rfl)
  have hz0 : totNs (l.take 0) = 0 := rfl
  refine aloop_intro (Nat × Int) (fun ⟨i, q⟩ => i ≤ l.length ∧ 0 ≤ q ∧ q ≤ m ∧ (∀ j, j < i → smN (l.getD j default)) ∧ (totNs (l.take i) : Int) + 3 * q ≤ 3 * (m - l.length) + 3 * i) (fun ⟨i, q⟩ => l.length - i) (fun ⟨i, q⟩ => [(5, .int .i64 i), (1, .int .i64 q)]) (fun ⟨i, q⟩ => []) [] (0, m - l.length) [] [] ?_ ?_ (by exact sgOk_of (by rfl)) ?_
  · first | (simp; done) | (simp; assumption) | (simp only; grind)
  · iterate 2 ((all_goals (conv=>whnf));(repeat' (first|exact trivial|rfl|(refine nilEq ?_;first|rfl|(simp only [*];done)|(simp [*];done)|grind)|apply And.intro|((first|apply intEq|apply boolEq|apply strEq|apply psEq|apply nilEq|apply arrEq);(try simp only [Int.toNat_natCast,etas,elDef]);first | done | omega | grind | (simp only [*]; done) | (simp [*]; done)))));(all_goals ((try simp only [Int.toNat_natCast,etas,elDef]);first | done | omega | grind | (simp only [*]; done) | (simp [*]; done)))
  rintro ⟨i, q⟩ hinv
  dsimp only at hinv
  conv => whnf
  obtain ⟨hi1, hi2, hi3, hi4, hi5⟩ := hinv
  have htk := fun h => totNs_take (l := l) (i := i) h
  repeat' first|((first|refine Cnd.mk (fun h=>?_) (fun h=>?_)|refine Gd.mk (fun h=>?_))<;>(try simp [etas,elDef,-List.getD_eq_getElem?_getD] at h)<;>conv=>whnf)|((first|refine Obl.mk (by first|omega|rfl|exact inK_byte _|(simp only [inK,Int.toNat_natCast,etas,elDef,m10,m28,m10]<;>first|omega|grind)|grind [inK,m10,m28,m10]) ?_|refine OblG.mk (by ((conv=>whnf);(repeat (first|refine Bx.mk ?_|(intro h;(try simp [etas,elDef,-List.getD_eq_getElem?_getD] at h);conv=>whnf)));(first|omega|rfl|exact inK_byte _|(simp only [inK,Int.toNat_natCast,etas,elDef,m10,m28,m10]<;>first|omega|grind)|grind [inK,m10,m28,m10]))) ?_|refine And.intro ?_ ?_)<;>conv=>whnf)|exact True.intro|(intro;conv=>whnf)
  · exact hK _ (.inl rfl)
  · rename_i _ r hr
    have htk := htk ‹_›
    have h5 : smN (l.getD i default) ∧ (totN (l.getD i default) : Int) ≤ 3 + 3 * (q - r) := by
      rcases hr with h | h
      · omega
      · have h6 := h.2.2
        simp only [nd_eta, getD_nat] at h6
        exact h6
    have h6 := h5.2
    exact ⟨(i + 1, r), [], [], ⟨by omega, by omega, by omega, fun j hj => by rcases Nat.lt_succ_iff_lt_or_eq.1 hj with h | h; exact hi4 j h; rw [h]; exact h5.1, by rw [htk]; push_cast; omega⟩, by simp only; omega, by iterate 2 ((all_goals (conv=>whnf));(repeat' (first|exact trivial|rfl|(refine nilEq ?_;first|rfl|(simp only [*];done)|(simp [*];done)|grind)|apply And.intro|((first|apply intEq|apply boolEq|apply strEq|apply psEq|apply nilEq|apply arrEq);(try simp only [Int.toNat_natCast,etas,elDef]);first | done | omega | grind | (simp only [*]; done) | (simp [*]; done)))));(all_goals ((try simp only [Int.toNat_natCast,etas,elDef]);first | done | omega | grind | (simp only [*]; done) | (simp [*]; done))), (by exact sgOk_of (by rfl))⟩
  · have e1 : l.take i = l := List.take_of_length_le (by omega)
    rw [e1] at hi5
    exact hK _ (.inr ⟨by omega, by omega, smNs_of (by omega) fun j hj => hi4 j (by omega), by omega⟩)
theorem r10_28 : ∀ k, (CtrOK Tryd.prog 10 (.gen .ps (Ck10 k)) ∧ Callable Tryd.prog 10) ∧ (CtrOK Tryd.prog 28 (.gen .ps (Ck28 k)) ∧ Callable Tryd.prog 28) := by
  intro k
  induction k with
  | zero =>
    exact ⟨⟨fun args K h => by
        unfold Ck10 at h; split at h
        · exact absurd h.o (Nat.not_lt_zero _)
        · exact h.elim, callable Tryd.func10 rfl (by rfl)⟩, ⟨fun args K h => by
        unfold Ck28 at h; split at h
        · exact absurd h.o (Nat.not_lt_zero _)
        · exact h.elim, callable Tryd.func28 rfl (by rfl)⟩⟩
  | succ k ih =>
    refine ⟨?_, ?_⟩
    · refine gen_ok (E := E10 k) (mkE_cons s9 (mkE_cons ih.2 (mkE_nil tab_ok))) mix (O := O10) (C := (Ck10 (k + 1))) (own := .ps) Tryd.func10 rfl (by rfl) (by kernel_rfl) (fun args K h hbd => ?_)
      unfold Ck10 at h; split at h
      case h_2 => exact h.elim
      exact ⟨Nat.le_of_ble_eq_true rfl, a10 k ⟨_, _, _, _, _⟩ _ h.o (by exact hbd) _ h.k⟩
    · refine gen_ok (E := E28 k) (mkE_cons ih.1 (mkE_nil tab_ok)) mix (O := O28) (C := (Ck28 (k + 1))) (own := .ps) Tryd.func28 rfl (by rfl) (by kernel_rfl) (fun args K h hbd => ?_)
      unfold Ck28 at h; split at h
      case h_2 => exact h.elim
      exact ⟨Nat.le_of_ble_eq_true rfl, a28 k _ _ h.o (by exact hbd) _ h.k⟩
theorem s10 : (CtrOK Tryd.prog 10 (.gen .ps C10) ∧ Callable Tryd.prog 10) := by
  refine ⟨fun args K h => ?_, (r10_28 0).1.2⟩
  unfold C10 at h; split at h
  · exact (r10_28 (m10 ⟨_, _, _, _, _⟩ _ + 1)).1.1 _ K ⟨Nat.lt_succ_self _, h⟩
  · exact h.elim
noncomputable def c16 (l : List Bs) (K : AV → List AV → Prop) : Prop :=
    Obl (l.length ≤ 2097152) (K (.ps .str l) [])
noncomputable def C16 : List AV → (AV → List AV → Prop) → Prop
  | [.ps .str l], K => c16 l K
  | _, _ => False
noncomputable def E16 : Ctx := mkE tab []
noncomputable def O16 : Nat → List DI := ordL []
theorem a16 (l : List Bs) (hb : BdAs [.ps .str l]) (K : AV → List AV → Prop) (h : c16 l K) : abody E16 O16 .ps Tryd.f16 (Tryd.f16.body.getD .skip) [.ps .str l] K := by
  simp only [BdAs, BdA, BdL, BdC, MX, ndC, shC, itC, stC, opC, chC, nwC, flC, rqC, rsC, enc, List.cons_append, List.nil_append, and_true, true_and] at hb
  unfold c16 at h
  obtain ⟨hs, hK⟩ := h
  conv => whnf
  repeat' first|((first|refine Cnd.mk (fun h=>?_) (fun h=>?_)|refine Gd.mk (fun h=>?_))<;>(try simp [etas,elDef,-List.getD_eq_getElem?_getD] at h)<;>conv=>whnf)|((first|refine Obl.mk (by first|omega|rfl|exact inK_byte _|(simp only [inK,Int.toNat_natCast,etas,elDef]<;>first|omega|grind)|grind [inK]) ?_|refine OblG.mk (by ((conv=>whnf);(repeat (first|refine Bx.mk ?_|(intro h;(try simp [etas,elDef,-List.getD_eq_getElem?_getD] at h);conv=>whnf)));(first|omega|rfl|exact inK_byte _|(simp only [inK,Int.toNat_natCast,etas,elDef]<;>first|omega|grind)|grind [inK]))) ?_|refine And.intro ?_ ?_)<;>conv=>whnf)|exact True.intro|(intro;conv=>whnf)
  refine aloop_intro Nat (fun k => k ≤ l.length ∧ True) (fun k => l.length - k) (fun k => [(4, .int .i64 k)]) (fun k => [(7, .arr .str (fillD default l k))]) [] 0 [] [] ?_ ?_ (by exact sgOk_of (by rfl)) ?_
  · first | (simp; done) | (simp; assumption)
  · iterate 2 ((all_goals (conv=>whnf));(repeat' (first|exact trivial|rfl|(refine nilEq ?_;first|rfl|(simp only [*];done)|(simp [*];done)|grind)|apply And.intro|((first|apply intEq|apply boolEq|apply strEq|apply psEq|apply nilEq|apply arrEq);(try simp only [Int.toNat_natCast,etas,elDef]);first | done | omega | grind | (simp only [*]; done) | (simp [*]; done)))));(all_goals ((try simp only [Int.toNat_natCast,etas,elDef]);first | done | omega | grind | (simp only [*]; done) | (simp [*]; done)))
  rintro i ⟨hi, hj⟩
  conv => whnf
  have hl := fillD_len default l hi
  have hset := fun h => fillD_set default l (k := i) h
  repeat' first|((first|refine Cnd.mk (fun h=>?_) (fun h=>?_)|refine Gd.mk (fun h=>?_))<;>(try simp [etas,elDef,-List.getD_eq_getElem?_getD] at h)<;>conv=>whnf)|((first|refine Obl.mk (by first|omega|rfl|exact inK_byte _|(simp only [inK,Int.toNat_natCast,etas,elDef]<;>first|omega|grind)|grind [inK]) ?_|refine OblG.mk (by ((conv=>whnf);(repeat (first|refine Bx.mk ?_|(intro h;(try simp [etas,elDef,-List.getD_eq_getElem?_getD] at h);conv=>whnf)));(first|omega|rfl|exact inK_byte _|(simp only [inK,Int.toNat_natCast,etas,elDef]<;>first|omega|grind)|grind [inK]))) ?_|refine And.intro ?_ ?_)<;>conv=>whnf)|exact True.intro|(intro;conv=>whnf)
  · exact ⟨i + 1, [], [], ⟨by omega, by grind⟩, by omega, by iterate 2 ((all_goals (conv=>whnf));(repeat' (first|exact trivial|rfl|(refine nilEq ?_;first|rfl|(simp only [*];done)|(simp [*];done)|grind)|apply And.intro|((first|apply intEq|apply boolEq|apply strEq|apply psEq|apply nilEq|apply arrEq);(try simp only [Int.toNat_natCast,etas,elDef]);first | done | omega | grind | (simp only [*]; done) | (simp [*]; done)))));(all_goals ((try simp only [Int.toNat_natCast,etas,elDef]);first | done | omega | grind | (simp only [*]; done) | (simp [*]; done))), (by exact sgOk_of (by rfl))⟩
  · exact leafV hK (by simp_all [fillD_all default l ‹l.length ≤ i›])
theorem s16 : (CtrOK Tryd.prog 16 (.gen .ps C16) ∧ Callable Tryd.prog 16) := by
  refine gen_ok (E := E16) (mkE_nil tab_ok) mix (O := O16) (C := C16) (own := .ps) Tryd.func16 rfl (by rfl) (by kernel_rfl) (fun args K h hbd => ?_)
  unfold C16 at h; split at h
  case h_2 => exact h.elim
  exact ⟨Nat.le_of_ble_eq_true rfl, a16 _ (by exact hbd) _ h⟩
noncomputable def c17 (n : Nd) (K : AV → List AV → Prop) : Prop :=
    Obl (smN n) (K (.st (ndC n)) [])
noncomputable def m17 (n : Nd) : Nat := SizeOf.sizeOf n
noncomputable def C17 : List AV → (AV → List AV → Prop) → Prop
  | [.st [.int .i64 n_0, .int .i64 n_1, .str n_2, .ps .str n_3, .ps .node n_4]], K => c17 ⟨n_0, n_1, n_2, n_3, n_4⟩ K
  | _, _ => False
noncomputable def Ck17 (k : Nat) : List AV → (AV → List AV → Prop) → Prop
  | [.st [.int .i64 n_0, .int .i64 n_1, .str n_2, .ps .str n_3, .ps .node n_4]], K => Obl (m17 ⟨n_0, n_1, n_2, n_3, n_4⟩ < k) (c17 ⟨n_0, n_1, n_2, n_3, n_4⟩ K)
  | _, _ => False
noncomputable def c43 (l : List Nd) (K : AV → List AV → Prop) : Prop :=
    Obl (smNs l) (K (.ps .node l) [])
noncomputable def m43 (l : List Nd) : Nat := SizeOf.sizeOf l
noncomputable def Ck43 (k : Nat) : List AV → (AV → List AV → Prop) → Prop
  | [.ps .node l], K => Obl (m43 l < k) (c43 l K)
  | _, _ => False
noncomputable def E17 (k : Nat) : Ctx := mkE tab [(16, .gen .ps C16), (43, .gen .ps (Ck43 k))]
noncomputable def O17 : Nat → List DI := ordL []
theorem a17 (k : Nat) (n : Nd) (hm : m17 n < k + 1) (hb : BdAs [.st (ndC n)]) (K : AV → List AV → Prop) (h : c17 n K) : abody (E17 k) O17 .ps Tryd.f17 (Tryd.f17.body.getD .skip) [.st (ndC n)] K := by
  simp only [BdAs, BdA, BdL, BdC, MX, ndC, shC, itC, stC, opC, chC, nwC, flC, rqC, rsC, enc, List.cons_append, List.nil_append, and_true, true_and] at hb
  unfold c17 at h
  unfold m17 at hm
  obtain ⟨hs, hK⟩ := h
  have h1 := kids_size n
  have h2 := hs.names
  have h3 := hs.kidsS
  conv => whnf
  repeat' first|((first|refine Cnd.mk (fun h=>?_) (fun h=>?_)|refine Gd.mk (fun h=>?_))<;>(try simp [etas,elDef,-List.getD_eq_getElem?_getD] at h)<;>conv=>whnf)|((first|refine Obl.mk (by first|omega|rfl|exact inK_byte _|(simp only [inK,Int.toNat_natCast,etas,elDef,m17,m43,m43]<;>first|omega|grind)|grind [inK,m17,m43,m43]) ?_|refine OblG.mk (by ((conv=>whnf);(repeat (first|refine Bx.mk ?_|(intro h;(try simp [etas,elDef,-List.getD_eq_getElem?_getD] at h);conv=>whnf)));(first|omega|rfl|exact inK_byte _|(simp only [inK,Int.toNat_natCast,etas,elDef,m17,m43,m43]<;>first|omega|grind)|grind [inK,m17,m43,m43]))) ?_|refine And.intro ?_ ?_)<;>conv=>whnf)|exact True.intro|(intro;conv=>whnf)
  all_goals exact leafV hK rfl
noncomputable def E43 (k : Nat) : Ctx := mkE tab [(17, .gen .ps (Ck17 k))]
noncomputable def O43 : Nat → List DI := ordL []
theorem a43 (k : Nat) (l : List Nd) (hm : m43 l < k + 1) (hb : BdAs [.ps .node l]) (K : AV → List AV → Prop) (h : c43 l K) : abody (E43 k) O43 .ps Tryd.f43 (Tryd.f43.body.getD .skip) [.ps .node l] K := by
  simp only [BdAs, BdA, BdL, BdC, MX, ndC, shC, itC, stC, opC, chC, nwC, flC, rqC, rsC, enc, List.cons_append, List.nil_append, and_true, true_and] at hb
  unfold c43 at h
  unfold m43 at hm
  obtain ⟨hs, hK⟩ := h
  have hkid : ∀ j, j < l.length → SizeOf.sizeOf (l.getD j default) < k ∧ smN (l.getD j default) := fun j hj => ⟨by have := mem_size hj; omega, hs.kid hj⟩
  have h3 := hs.1
  conv => whnf
  repeat' first|((first|refine Cnd.mk (fun h=>?_) (fun h=>?_)|refine Gd.mk (fun h=>?_))<;>(try simp [etas,elDef,-List.getD_eq_getElem?_getD] at h)<;>conv=>whnf)|((first|refine Obl.mk (by first|omega|rfl|exact inK_byte _|(simp only [inK,Int.toNat_natCast,etas,elDef,m17,m43,m17]<;>first|omega|grind)|grind [inK,m17,m43,m17]) ?_|refine OblG.mk (by ((conv=>whnf);(repeat (first|refine Bx.mk ?_|(intro h;(try simp [etas,elDef,-List.getD_eq_getElem?_getD] at h);conv=>whnf)));(first|omega|rfl|exact inK_byte _|(simp only [inK,Int.toNat_natCast,etas,elDef,m17,m43,m17]<;>first|omega|grind)|grind [inK,m17,m43,m17]))) ?_|refine And.intro ?_ ?_)<;>conv=>whnf)|exact True.intro|(intro;conv=>whnf)
  refine aloop_intro Nat (fun k => k ≤ l.length ∧ True) (fun k => l.length - k) (fun k => [(4, .int .i64 k)]) (fun k => [(7, .arr .node (fillD default l k))]) [] 0 [] [] ?_ ?_ (by exact sgOk_of (by rfl)) ?_
  · first | (simp; done) | (simp; assumption)
  · iterate 2 ((all_goals (conv=>whnf));(repeat' (first|exact trivial|rfl|(refine nilEq ?_;first|rfl|(simp only [*];done)|(simp [*];done)|grind)|apply And.intro|((first|apply intEq|apply boolEq|apply strEq|apply psEq|apply nilEq|apply arrEq);(try simp only [Int.toNat_natCast,etas,elDef]);first | done | omega | grind | (simp only [*]; done) | (simp [*]; done)))));(all_goals ((try simp only [Int.toNat_natCast,etas,elDef]);first | done | omega | grind | (simp only [*]; done) | (simp [*]; done)))
  rintro i ⟨hi, hj⟩
  conv => whnf
  have hl := fillD_len default l hi
  have hset := fun h => fillD_set default l (k := i) h
  repeat' first|((first|refine Cnd.mk (fun h=>?_) (fun h=>?_)|refine Gd.mk (fun h=>?_))<;>(try simp [etas,elDef,-List.getD_eq_getElem?_getD] at h)<;>conv=>whnf)|((first|refine Obl.mk (by first|omega|rfl|exact inK_byte _|(simp only [inK,Int.toNat_natCast,etas,elDef,m17,m43,m17]<;>first|omega|grind)|grind [inK,m17,m43,m17]) ?_|refine OblG.mk (by ((conv=>whnf);(repeat (first|refine Bx.mk ?_|(intro h;(try simp [etas,elDef,-List.getD_eq_getElem?_getD] at h);conv=>whnf)));(first|omega|rfl|exact inK_byte _|(simp only [inK,Int.toNat_natCast,etas,elDef,m17,m43,m17]<;>first|omega|grind)|grind [inK,m17,m43,m17]))) ?_|refine And.intro ?_ ?_)<;>conv=>whnf)|exact True.intro|(intro;conv=>whnf)
  · exact ⟨i + 1, [], [], ⟨by omega, by grind⟩, by omega, by iterate 2 ((all_goals (conv=>whnf));(repeat' (first|exact trivial|rfl|(refine nilEq ?_;first|rfl|(simp only [*];done)|(simp [*];done)|grind)|apply And.intro|((first|apply intEq|apply boolEq|apply strEq|apply psEq|apply nilEq|apply arrEq);(try simp only [Int.toNat_natCast,etas,elDef]);first | done | omega | grind | (simp only [*]; done) | (simp [*]; done)))));(all_goals ((try simp only [Int.toNat_natCast,etas,elDef]);first | done | omega | grind | (simp only [*]; done) | (simp [*]; done))), (by exact sgOk_of (by rfl))⟩
  · exact leafV hK (by simp_all [fillD_all default l ‹l.length ≤ i›])
theorem r17_43 : ∀ k, (CtrOK Tryd.prog 17 (.gen .ps (Ck17 k)) ∧ Callable Tryd.prog 17) ∧ (CtrOK Tryd.prog 43 (.gen .ps (Ck43 k)) ∧ Callable Tryd.prog 43) := by
  intro k
  induction k with
  | zero =>
    exact ⟨⟨fun args K h => by
        unfold Ck17 at h; split at h
        · exact absurd h.o (Nat.not_lt_zero _)
        · exact h.elim, callable Tryd.func17 rfl (by rfl)⟩, ⟨fun args K h => by
        unfold Ck43 at h; split at h
        · exact absurd h.o (Nat.not_lt_zero _)
        · exact h.elim, callable Tryd.func43 rfl (by rfl)⟩⟩
  | succ k ih =>
    refine ⟨?_, ?_⟩
    · refine gen_ok (E := E17 k) (mkE_cons s16 (mkE_cons ih.2 (mkE_nil tab_ok))) mix (O := O17) (C := (Ck17 (k + 1))) (own := .ps) Tryd.func17 rfl (by rfl) (by kernel_rfl) (fun args K h hbd => ?_)
      unfold Ck17 at h; split at h
      case h_2 => exact h.elim
      exact ⟨Nat.le_of_ble_eq_true rfl, a17 k ⟨_, _, _, _, _⟩ h.o (by exact hbd) _ h.k⟩
    · refine gen_ok (E := E43 k) (mkE_cons ih.1 (mkE_nil tab_ok)) mix (O := O43) (C := (Ck43 (k + 1))) (own := .ps) Tryd.func43 rfl (by rfl) (by kernel_rfl) (fun args K h hbd => ?_)
      unfold Ck43 at h; split at h
      case h_2 => exact h.elim
      exact ⟨Nat.le_of_ble_eq_true rfl, a43 k _ h.o (by exact hbd) _ h.k⟩
theorem s17 : (CtrOK Tryd.prog 17 (.gen .ps C17) ∧ Callable Tryd.prog 17) := by
  refine ⟨fun args K h => ?_, (r17_43 0).1.2⟩
  unfold C17 at h; split at h
  · exact (r17_43 (m17 ⟨_, _, _, _, _⟩ + 1)).1.1 _ K ⟨Nat.lt_succ_self _, h⟩
  · exact h.elim
noncomputable def v25 (a : List Bs) (b : List Bs) : AV := .bool (eqD a b)
noncomputable def o25 (a : List Bs) (b : List Bs) : Prop := True
noncomputable def F25 : List AV → QR
  | [.ps .str a, .ps .str b] => some (none, v25 a b)
  | _ => none
noncomputable def E25 : Ctx := mkE tab []
noncomputable def O25 : Nat → List DI := ordL [(6, [.q 0, .q 1, .q 2, .q 3, .q 4, .q 5, .q 6, .q 7, .q 8])]
theorem a25 (a : List Bs) (b : List Bs) (hb : BdAs [.ps .str a, .ps .str b]) (ho : o25 a b) (K : AV → List AV → Prop) (hK : K (v25 a b) []) : abody E25 O25 .ps Tryd.f25 (Tryd.f25.body.getD .skip) [.ps .str a, .ps .str b] K := by
  simp only [BdAs, BdA, BdL, BdC, MX, ndC, shC, itC, stC, opC, chC, nwC, flC, rqC, rsC, enc, List.cons_append, List.nil_append, and_true, true_and] at hb
  unfold v25 at hK
  conv => whnf
  repeat' first|((first|refine Cnd.mk (fun h=>?_) (fun h=>?_)|refine Gd.mk (fun h=>?_))<;>(try simp [etas,elDef,-List.getD_eq_getElem?_getD] at h)<;>conv=>whnf)|((first|refine Obl.mk (by first|omega|rfl|exact inK_byte _|(simp only [inK,Int.toNat_natCast,etas,elDef]<;>first|omega|grind)|grind [inK]) ?_|refine OblG.mk (by ((conv=>whnf);(repeat (first|refine Bx.mk ?_|(intro h;(try simp [etas,elDef,-List.getD_eq_getElem?_getD] at h);conv=>whnf)));(first|omega|rfl|exact inK_byte _|(simp only [inK,Int.toNat_natCast,etas,elDef]<;>first|omega|grind)|grind [inK]))) ?_|refine And.intro ?_ ?_)<;>conv=>whnf)|exact True.intro|(intro;conv=>whnf)
  · exact leafB hK (eqD_no.2 (by grind))
  refine aloop_intro Nat (fun k => k ≤ a.length ∧ ∀ j, j < k → a.getD j [] = b.getD j []) (fun k => a.length - k) (fun k => [(5, .int .i64 k)]) (fun _ => []) [] 0 [] [] (by simp) ?_ (by exact sgOk_of (by rfl)) ?_
  · iterate 2 ((all_goals (conv=>whnf));(repeat' (first|exact trivial|rfl|(refine nilEq ?_;first|rfl|(simp only [*];done)|(simp [*];done)|grind)|apply And.intro|((first|apply intEq|apply boolEq|apply strEq|apply psEq|apply nilEq|apply arrEq);(try simp only [Int.toNat_natCast,etas,elDef]);first | done | omega | grind | (simp only [*]; done) | (simp [*]; done)))));(all_goals ((try simp only [Int.toNat_natCast,etas,elDef]);first | done | omega | grind | (simp only [*]; done) | (simp [*]; done)))
  rintro i ⟨hi, hj⟩
  conv => whnf
  repeat' first|((first|refine Cnd.mk (fun h=>?_) (fun h=>?_)|refine Gd.mk (fun h=>?_))<;>(try simp [etas,elDef,-List.getD_eq_getElem?_getD] at h)<;>conv=>whnf)|((first|refine Obl.mk (by first|omega|rfl|exact inK_byte _|(simp only [inK,Int.toNat_natCast,etas,elDef]<;>first|omega|grind)|grind [inK]) ?_|refine OblG.mk (by ((conv=>whnf);(repeat (first|refine Bx.mk ?_|(intro h;(try simp [etas,elDef,-List.getD_eq_getElem?_getD] at h);conv=>whnf)));(first|omega|rfl|exact inK_byte _|(simp only [inK,Int.toNat_natCast,etas,elDef]<;>first|omega|grind)|grind [inK]))) ?_|refine And.intro ?_ ?_)<;>conv=>whnf)|exact True.intro|(intro;conv=>whnf)
  · exact leafB hK (eqD_no.2 (by grind))
  · exact ⟨i + 1, [], [], ⟨by omega, by grind⟩, by omega, by iterate 2 ((all_goals (conv=>whnf));(repeat' (first|exact trivial|rfl|(refine nilEq ?_;first|rfl|(simp only [*];done)|(simp [*];done)|grind)|apply And.intro|((first|apply intEq|apply boolEq|apply strEq|apply psEq|apply nilEq|apply arrEq);(try simp only [Int.toNat_natCast,etas,elDef]);first | done | omega | grind | (simp only [*]; done) | (simp [*]; done)))));(all_goals ((try simp only [Int.toNat_natCast,etas,elDef]);first | done | omega | grind | (simp only [*]; done) | (simp [*]; done))), (by exact sgOk_of (by rfl))⟩
  · exact leafB hK (eqD_iff.2 (listEq [] (by omega) (by grind)))
theorem s25 : (CtrOK Tryd.prog 25 (.pure F25) ∧ Callable Tryd.prog 25) := by
  refine pure_ok (E := E25) (mkE_nil tab_ok) mix (O := O25) (F := F25) Tryd.func25 rfl (by rfl) (by kernel_rfl) (fun args o v h => ?_) (fun args o v h => ?_) (fun args o v h hbd hp K hK => ?_)
  · unfold F25 at h; split at h <;> cases h; first | trivial | (simp [v25, Scalar, Scalar2, Scalar1, stC, ndC, itC, chC, nwC])
  · unfold F25 at h; split at h <;> cases h; exact Nat.le_of_ble_eq_true rfl
  · unfold F25 at h; split at h
    case h_2 => cases h
    cases h
    exact a25 _ _ (by exact hbd) trivial K hK
noncomputable def v26 (a : Nd) (b : Nd) : AV := .bool (eqD a b)
noncomputable def o26 (a : Nd) (b : Nd) : Prop := True
noncomputable def m26 (a : Nd) (b : Nd) : Nat := SizeOf.sizeOf a
noncomputable def F26 : List AV → QR
  | [.st [.int .i64 a_0, .int .i64 a_1, .str a_2, .ps .str a_3, .ps .node a_4], .st [.int .i64 b_0, .int .i64 b_1, .str b_2, .ps .str b_3, .ps .node b_4]] => some (none, v26 ⟨a_0, a_1, a_2, a_3, a_4⟩ ⟨b_0, b_1, b_2, b_3, b_4⟩)
  | _ => none
noncomputable def Fk26 (k : Nat) : List AV → QR
  | [.st [.int .i64 a_0, .int .i64 a_1, .str a_2, .ps .str a_3, .ps .node a_4], .st [.int .i64 b_0, .int .i64 b_1, .str b_2, .ps .str b_3, .ps .node b_4]] => some (some (m26 ⟨a_0, a_1, a_2, a_3, a_4⟩ ⟨b_0, b_1, b_2, b_3, b_4⟩ < k ∧ o26 ⟨a_0, a_1, a_2, a_3, a_4⟩ ⟨b_0, b_1, b_2, b_3, b_4⟩), v26 ⟨a_0, a_1, a_2, a_3, a_4⟩ ⟨b_0, b_1, b_2, b_3, b_4⟩)
  | _ => none
noncomputable def v56 (a : List Nd) (b : List Nd) : AV := .bool (eqD a b)
noncomputable def o56 (a : List Nd) (b : List Nd) : Prop := True
noncomputable def m56 (a : List Nd) (b : List Nd) : Nat := SizeOf.sizeOf a
noncomputable def Fk56 (k : Nat) : List AV → QR
  | [.ps .node a, .ps .node b] => some (some (m56 a b < k ∧ o56 a b), v56 a b)
  | _ => none
noncomputable def E26 (k : Nat) : Ctx := mkE tab [(25, .pure F25), (56, .pure (Fk56 k))]
noncomputable def O26 : Nat → List DI := ordL []
theorem a26 (k : Nat) (a : Nd) (b : Nd) (hm : m26 a b < k + 1) (hb : BdAs [.st (ndC a), .st (ndC b)]) (ho : o26 a b) (K : AV → List AV → Prop) (hK : K (v26 a b) []) : abody (E26 k) O26 .ps Tryd.f26 (Tryd.f26.body.getD .skip) [.st (ndC a), .st (ndC b)] K := by
  simp only [BdAs, BdA, BdL, BdC, MX, ndC, shC, itC, stC, opC, chC, nwC, flC, rqC, rsC, enc, List.cons_append, List.nil_append, and_true, true_and] at hb
  unfold v26 at hK
  unfold m26 at hm
  have h1 := kids_size a
  conv => whnf
  repeat' first|((first|refine Cnd.mk (fun h=>?_) (fun h=>?_)|refine Gd.mk (fun h=>?_))<;>(try simp [etas,elDef,-List.getD_eq_getElem?_getD] at h)<;>conv=>whnf)|((first|refine Obl.mk (by first|omega|rfl|exact inK_byte _|(simp only [inK,Int.toNat_natCast,etas,elDef,m26,m56,o56,m56]<;>first|omega|grind)|grind [inK,m26,m56,o56,m56]) ?_|refine OblG.mk (by ((conv=>whnf);(repeat (first|refine Bx.mk ?_|(intro h;(try simp [etas,elDef,-List.getD_eq_getElem?_getD] at h);conv=>whnf)));(first|omega|rfl|exact inK_byte _|(simp only [inK,Int.toNat_natCast,etas,elDef,m26,m56,o56,m56]<;>first|omega|grind)|grind [inK,m26,m56,o56,m56]))) ?_|refine And.intro ?_ ?_)<;>conv=>whnf)|exact True.intro|(intro;conv=>whnf)
  · exact leafB hK (eqD_no.2 (by grind))
  · exact leafB hK (eqD_no.2 (by grind))
  · exact leafB hK (eqD_no.2 (by grind))
  · exact leafB hK (eqD_no.2 (by grind [eqD_no]))
  · exact leafB hK (eqD_no.2 (by grind [eqD_no]))
  · exact leafB hK (eqD_iff.2 (nd_ext (by grind) (by grind) (by grind) (by grind [eqD_iff]) (by grind [eqD_iff])))
noncomputable def E56 (k : Nat) : Ctx := mkE tab [(26, .pure (Fk26 k))]
noncomputable def O56 : Nat → List DI := ordL [(6, [.q 0, .q 1, .q 2, .q 3, .q 4, .q 5, .q 6, .q 7, .q 8, .q 9])]
theorem a56 (k : Nat) (a : List Nd) (b : List Nd) (hm : m56 a b < k + 1) (hb : BdAs [.ps .node a, .ps .node b]) (ho : o56 a b) (K : AV → List AV → Prop) (hK : K (v56 a b) []) : abody (E56 k) O56 .ps Tryd.f56 (Tryd.f56.body.getD .skip) [.ps .node a, .ps .node b] K := by
  simp only [BdAs, BdA, BdL, BdC, MX, ndC, shC, itC, stC, opC, chC, nwC, flC, rqC, rsC, enc, List.cons_append, List.nil_append, and_true, true_and] at hb
  unfold v56 at hK
  unfold m56 at hm
  have hkid : ∀ j, j < a.length → SizeOf.sizeOf (a.getD j default) < k := fun j hj => by have := mem_size hj; omega
  conv => whnf
  repeat' first|((first|refine Cnd.mk (fun h=>?_) (fun h=>?_)|refine Gd.mk (fun h=>?_))<;>(try simp [etas,elDef,-List.getD_eq_getElem?_getD] at h)<;>conv=>whnf)|((first|refine Obl.mk (by first|omega|rfl|exact inK_byte _|(simp only [inK,Int.toNat_natCast,etas,elDef,m26,m56,o26,m26]<;>first|omega|grind)|grind [inK,m26,m56,o26,m26]) ?_|refine OblG.mk (by ((conv=>whnf);(repeat (first|refine Bx.mk ?_|(intro h;(try simp [etas,elDef,-List.getD_eq_getElem?_getD] at h);conv=>whnf)));(first|omega|rfl|exact inK_byte _|(simp only [inK,Int.toNat_natCast,etas,elDef,m26,m56,o26,m26]<;>first|omega|grind)|grind [inK,m26,m56,o26,m26]))) ?_|refine And.intro ?_ ?_)<;>conv=>whnf)|exact True.intro|(intro;conv=>whnf)
  · exact leafB hK (eqD_no.2 (by grind))
  refine aloop_intro Nat (fun k => k ≤ a.length ∧ ∀ j, j < k → a.getD j default = b.getD j default) (fun k => a.length - k) (fun k => [(5, .int .i64 k)]) (fun _ => []) [] 0 [] [] (by simp) ?_ (by exact sgOk_of (by rfl)) ?_
  · iterate 2 ((all_goals (conv=>whnf));(repeat' (first|exact trivial|rfl|(refine nilEq ?_;first|rfl|(simp only [*];done)|(simp [*];done)|grind)|apply And.intro|((first|apply intEq|apply boolEq|apply strEq|apply psEq|apply nilEq|apply arrEq);(try simp only [Int.toNat_natCast,etas,elDef]);first | done | omega | grind | (simp only [*]; done) | (simp [*]; done)))));(all_goals ((try simp only [Int.toNat_natCast,etas,elDef]);first | done | omega | grind | (simp only [*]; done) | (simp [*]; done)))
  rintro i ⟨hi, hj⟩
  conv => whnf
  repeat' first|((first|refine Cnd.mk (fun h=>?_) (fun h=>?_)|refine Gd.mk (fun h=>?_))<;>(try simp [etas,elDef,-List.getD_eq_getElem?_getD] at h)<;>conv=>whnf)|((first|refine Obl.mk (by first|omega|rfl|exact inK_byte _|(simp only [inK,Int.toNat_natCast,etas,elDef,m26,m56,o26,m26]<;>first|omega|grind)|grind [inK,m26,m56,o26,m26]) ?_|refine OblG.mk (by ((conv=>whnf);(repeat (first|refine Bx.mk ?_|(intro h;(try simp [etas,elDef,-List.getD_eq_getElem?_getD] at h);conv=>whnf)));(first|omega|rfl|exact inK_byte _|(simp only [inK,Int.toNat_natCast,etas,elDef,m26,m56,o26,m26]<;>first|omega|grind)|grind [inK,m26,m56,o26,m26]))) ?_|refine And.intro ?_ ?_)<;>conv=>whnf)|exact True.intro|(intro;conv=>whnf)
  · exact leafB hK (eqD_no.2 (by grind [eqD_no]))
  · exact ⟨i + 1, [], [], ⟨by omega, by grind [eqD_iff]⟩, by omega, by iterate 2 ((all_goals (conv=>whnf));(repeat' (first|exact trivial|rfl|(refine nilEq ?_;first|rfl|(simp only [*];done)|(simp [*];done)|grind)|apply And.intro|((first|apply intEq|apply boolEq|apply strEq|apply psEq|apply nilEq|apply arrEq);(try simp only [Int.toNat_natCast,etas,elDef]);first | done | omega | grind | (simp only [*]; done) | (simp [*]; done)))));(all_goals ((try simp only [Int.toNat_natCast,etas,elDef]);first | done | omega | grind | (simp only [*]; done) | (simp [*]; done))), (by exact sgOk_of (by rfl))⟩
  · exact leafB hK (eqD_iff.2 (listEq default (by omega) (by grind)))
theorem r26_56 : ∀ k, (CtrOK Tryd.prog 26 (.pure (Fk26 k)) ∧ Callable Tryd.prog 26) ∧ (CtrOK Tryd.prog 56 (.pure (Fk56 k)) ∧ Callable Tryd.prog 56) := by
  intro k
  induction k with
  | zero =>
    exact ⟨⟨⟨fun args o v h => by unfold Fk26 at h; split at h <;> cases h; first | trivial | (simp [v26, Scalar, Scalar2, Scalar1, stC, ndC, itC, chC, nwC]), fun args K h => by
        unfold pureC Fk26 at h; split at h
        · rename_i h1; split at h1 <;> cases h1; exact absurd (h.1 _ rfl).1 (Nat.not_lt_zero _)
        · exact h.elim⟩, callable Tryd.func26 rfl (by rfl)⟩, ⟨⟨fun args o v h => by unfold Fk56 at h; split at h <;> cases h; first | trivial | (simp [v56, Scalar, Scalar2, Scalar1, stC, ndC, itC, chC, nwC]), fun args K h => by
        unfold pureC Fk56 at h; split at h
        · rename_i h1; split at h1 <;> cases h1; exact absurd (h.1 _ rfl).1 (Nat.not_lt_zero _)
        · exact h.elim⟩, callable Tryd.func56 rfl (by rfl)⟩⟩
  | succ k ih =>
    refine ⟨?_, ?_⟩
    · refine pure_ok (E := E26 k) (mkE_cons s25 (mkE_cons ih.2 (mkE_nil tab_ok))) mix (O := O26) (F := (Fk26 (k + 1))) Tryd.func26 rfl (by rfl) (by kernel_rfl) (fun args o v h => ?_) (fun args o v h => ?_) (fun args o v h hbd hp K hK => ?_)
      · unfold Fk26 at h; split at h <;> cases h; first | trivial | (simp [v26, Scalar, Scalar2, Scalar1, stC, ndC, itC, chC, nwC])
      · unfold Fk26 at h; split at h <;> cases h; exact Nat.le_of_ble_eq_true rfl
      · unfold Fk26 at h; split at h
        case h_2 => cases h
        cases h
        exact a26 k ⟨_, _, _, _, _⟩ ⟨_, _, _, _, _⟩ (hp _ rfl).1 (by exact hbd) (hp _ rfl).2 K hK
    · refine pure_ok (E := E56 k) (mkE_cons ih.1 (mkE_nil tab_ok)) mix (O := O56) (F := (Fk56 (k + 1))) Tryd.func56 rfl (by rfl) (by kernel_rfl) (fun args o v h => ?_) (fun args o v h => ?_) (fun args o v h hbd hp K hK => ?_)
      · unfold Fk56 at h; split at h <;> cases h; first | trivial | (simp [v56, Scalar, Scalar2, Scalar1, stC, ndC, itC, chC, nwC])
      · unfold Fk56 at h; split at h <;> cases h; exact Nat.le_of_ble_eq_true rfl
      · unfold Fk56 at h; split at h
        case h_2 => cases h
        cases h
        exact a56 k _ _ (hp _ rfl).1 (by exact hbd) (hp _ rfl).2 K hK
theorem s26 : (CtrOK Tryd.prog 26 (.pure F26) ∧ Callable Tryd.prog 26) := by
  refine ⟨⟨fun args o v h => ?_, fun args K h => ?_⟩, (r26_56 0).1.2⟩
  · unfold F26 at h; split at h <;> cases h; first | trivial | (simp [v26, Scalar, Scalar2, Scalar1, stC, ndC, itC, chC, nwC])
  · unfold pureC F26 at h; split at h
    · rename_i h1; split at h1 <;> cases h1
      exact (r26_56 (m26 ⟨_, _, _, _, _⟩ ⟨_, _, _, _, _⟩ + 1)).1.1.2 _ K ⟨fun p hp => by cases hp; exact ⟨Nat.lt_succ_self _, trivial⟩, h.2⟩
    · exact h.elim
end Go.Rs

