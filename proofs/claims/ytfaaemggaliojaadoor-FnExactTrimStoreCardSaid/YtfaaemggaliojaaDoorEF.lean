import Derived.Test.YtfaaemggaliojaaDoorCK
import Derived.Test.YtfaaemggaliojaaDoorCI
import Derived.Test.YtfaaemggaliojaaDoorMB
import Derived.Test.YtfaaemggaliojaaDoorCG
import Derived.Test.YtfaaemggaliojaaDoorMG
import Derived.Test.YtfaaemggaliojaaDoorMH
set_option linter.all false
set_option linter.unusedSimpArgs false
set_option linter.unusedVariables false
namespace Go.Rs
open Go.Proofs
set_option maxRecDepth 100000
noncomputable def c46 (l : List Bs) (m : Int) (K : AV → List AV → Prop) : Prop :=
    Obl ((0 ≤ m ∧ m ≤ 1048576) ∧ ∀ x ∈ l, x.length ≤ 140737488355328) (∀ r : Int, szOk m r (l.length ≤ 2097152 ∧ (l.length : Int) ≤ m - r) → K (.int .i64 r) [])
noncomputable def C46 : List AV → (AV → List AV → Prop) → Prop
  | [.ps .str l, .int .i64 m], K => c46 l m K
  | _, _ => False
noncomputable def E46 : Ctx := mkE tab []
noncomputable def O46 : Nat → List DI := ordL []
theorem a46 (l : List Bs) (m : Int) (hb : BdAs [.ps .str l, .int .i64 m]) (K : AV → List AV → Prop) (h : c46 l m K) : abody E46 O46 .ps Tryd.f46 (Tryd.f46.body.getD .skip) [.ps .str l, .int .i64 m] K := by
  simp only [BdAs, BdA, BdL, BdC, MX, ndC, shC, itC, stC, opC, chC, nwC, flC, rqC, rsC, enc, List.cons_append, List.nil_append, and_true, true_and] at hb
  unfold c46 at h
  obtain ⟨⟨hm, hx⟩, hK⟩ := h
  conv => whnf
  repeat' first|((first|refine Cnd.mk (fun h=>?_) (fun h=>?_)|refine Gd.mk (fun h=>?_))<;>(try simp [etas,elDef,-List.getD_eq_getElem?_getD] at h)<;>conv=>whnf)|((first|refine Obl.mk (by first|omega|rfl|exact inK_byte _|(simp only [inK,Int.toNat_natCast,etas,elDef]<;>first|omega|grind)|grind [inK]) ?_|refine OblG.mk (by ((conv=>whnf);(repeat (first|refine Bx.mk ?_|(intro h;(try simp [etas,elDef,-List.getD_eq_getElem?_getD] at h);conv=>whnf)));(first|omega|rfl|exact inK_byte _|(simp only [inK,Int.toNat_natCast,etas,elDef]<;>first|omega|grind)|grind [inK]))) ?_|refine And.intro ?_ ?_)<;>conv=>whnf)|exact True.intro|(intro;conv=>whnf)
  · exact hK _ (.inl rfl)
  refine aloop_intro (Nat × Int) (fun ⟨i, q⟩ => i ≤ l.length ∧ 0 ≤ q ∧ q ≤ m - l.length) (fun ⟨i, q⟩ => l.length - i) (fun ⟨i, q⟩ => [(5, .int .i64 i), (1, .int .i64 q)]) (fun ⟨i, q⟩ => []) [] (0, m - l.length) [] [] ?_ ?_ (by exact sgOk_of (by rfl)) ?_
  · first | (simp; done) | (simp; assumption) | (simp only; grind)
  · iterate 2 ((all_goals (conv=>whnf));(repeat' (first|exact trivial|rfl|(refine nilEq ?_;first|rfl|(simp only [*];done)|(simp [*];done)|grind)|apply And.intro|((first|apply intEq|apply boolEq|apply strEq|apply psEq|apply nilEq|apply arrEq);(try simp only [Int.toNat_natCast,etas,elDef]);first | done | omega | grind | (simp only [*]; done) | (simp [*]; done)))));(all_goals ((try simp only [Int.toNat_natCast,etas,elDef]);first | done | omega | grind | (simp only [*]; done) | (simp [*]; done)))
  rintro ⟨i, q⟩ hinv
  dsimp only at hinv
  conv => whnf
  obtain ⟨hi1, hi2, hi3⟩ := hinv
  have hx2 := bdT_getD hx (i : Int).toNat
  repeat' first|((first|refine Cnd.mk (fun h=>?_) (fun h=>?_)|refine Gd.mk (fun h=>?_))<;>(try simp [etas,elDef,-List.getD_eq_getElem?_getD] at h)<;>conv=>whnf)|((first|refine Obl.mk (by first|omega|rfl|exact inK_byte _|(simp only [inK,Int.toNat_natCast,etas,elDef]<;>first|omega|grind)|grind [inK]) ?_|refine OblG.mk (by ((conv=>whnf);(repeat (first|refine Bx.mk ?_|(intro h;(try simp [etas,elDef,-List.getD_eq_getElem?_getD] at h);conv=>whnf)));(first|omega|rfl|exact inK_byte _|(simp only [inK,Int.toNat_natCast,etas,elDef]<;>first|omega|grind)|grind [inK]))) ?_|refine And.intro ?_ ?_)<;>conv=>whnf)|exact True.intro|(intro;conv=>whnf)
  · exact hK _ (.inl rfl)
  · exact ⟨(i + 1, q - (l.getD i []).length), [], [], ⟨by omega, by simp_all, by omega⟩, by simp only; omega, by iterate 2 ((all_goals (conv=>whnf));(repeat' (first|exact trivial|rfl|(refine nilEq ?_;first|rfl|(simp only [*];done)|(simp [*];done)|grind)|apply And.intro|((first|apply intEq|apply boolEq|apply strEq|apply psEq|apply nilEq|apply arrEq);(try simp only [Int.toNat_natCast,etas,elDef]);first | done | omega | grind | (simp only [*]; done) | (simp [*]; done)))));(all_goals ((try simp only [Int.toNat_natCast,etas,elDef]);first | done | omega | grind | (simp only [*]; done) | (simp [*]; done))), (by exact sgOk_of (by rfl))⟩
  · exact hK _ (.inr ⟨by omega, by omega, by omega, by omega⟩)
theorem s46 : (CtrOK Tryd.prog 46 (.gen .ps C46) ∧ Callable Tryd.prog 46) := by
  refine gen_ok (E := E46) (mkE_nil tab_ok) mix (O := O46) (C := C46) (own := .ps) Tryd.func46 rfl (by rfl) (by kernel_rfl) (fun args K h hbd => ?_)
  unfold C46 at h; split at h
  case h_2 => exact h.elim
  exact ⟨Nat.le_of_ble_eq_true rfl, a46 _ _ (by exact hbd) _ h⟩
noncomputable def c47 (n : Nd) (m : Int) (K : AV → List AV → Prop) : Prop :=
    Obl ((0 ≤ m ∧ m ≤ 1048576) ∧ bdN n) (∀ r : Int, szOk m r (smN n ∧ (totN n : Int) ≤ 3 + 3 * (m - r)) → K (.int .i64 r) [])
noncomputable def m47 (n : Nd) (m : Int) : Nat := SizeOf.sizeOf n
noncomputable def C47 : List AV → (AV → List AV → Prop) → Prop
  | [.st [.int .i64 n_0, .int .i64 n_1, .str n_2, .ps .str n_3, .ps .node n_4], .int .i64 m], K => c47 ⟨n_0, n_1, n_2, n_3, n_4⟩ m K
  | _, _ => False
noncomputable def Ck47 (k : Nat) : List AV → (AV → List AV → Prop) → Prop
  | [.st [.int .i64 n_0, .int .i64 n_1, .str n_2, .ps .str n_3, .ps .node n_4], .int .i64 m], K => Obl (m47 ⟨n_0, n_1, n_2, n_3, n_4⟩ m < k) (c47 ⟨n_0, n_1, n_2, n_3, n_4⟩ m K)
  | _, _ => False
noncomputable def c67 (l : List Nd) (m : Int) (K : AV → List AV → Prop) : Prop :=
    Obl ((0 ≤ m ∧ m ≤ 1048576) ∧ ∀ x ∈ l, bdN x) (∀ r : Int, szOk m r (smNs l ∧ (totNs l : Int) ≤ 3 * (m - r)) → K (.int .i64 r) [])
noncomputable def m67 (l : List Nd) (m : Int) : Nat := SizeOf.sizeOf l
noncomputable def Ck67 (k : Nat) : List AV → (AV → List AV → Prop) → Prop
  | [.ps .node l, .int .i64 m], K => Obl (m67 l m < k) (c67 l m K)
  | _, _ => False
noncomputable def E47 (k : Nat) : Ctx := mkE tab [(46, .gen .ps C46), (67, .gen .ps (Ck67 k))]
noncomputable def O47 : Nat → List DI := ordL []
theorem a47 (k : Nat) (n : Nd) (m : Int) (hm : m47 n m < k + 1) (hb : BdAs [.st (ndC n), .int .i64 m]) (K : AV → List AV → Prop) (h : c47 n m K) : abody (E47 k) O47 .ps Tryd.f47 (Tryd.f47.body.getD .skip) [.st (ndC n), .int .i64 m] K := by
  simp only [BdAs, BdA, BdL, BdC, MX, ndC, shC, itC, stC, opC, chC, nwC, flC, rqC, rsC, enc, List.cons_append, List.nil_append, and_true, true_and] at hb
  unfold c47 at h
  unfold m47 at hm
  obtain ⟨⟨hm, hx⟩, hK⟩ := h
  have h1 := kids_size n
  have h2 := hx.names
  have h3 := hx.kids
  conv => whnf
  repeat' first|((first|refine Cnd.mk (fun h=>?_) (fun h=>?_)|refine Gd.mk (fun h=>?_))<;>(try simp [etas,elDef,-List.getD_eq_getElem?_getD] at h)<;>conv=>whnf)|((first|refine Obl.mk (by first|omega|rfl|exact inK_byte _|(simp only [inK,Int.toNat_natCast,etas,elDef,m47,m67,m67]<;>first|omega|grind)|grind [inK,m47,m67,m67]) ?_|refine OblG.mk (by ((conv=>whnf);(repeat (first|refine Bx.mk ?_|(intro h;(try simp [etas,elDef,-List.getD_eq_getElem?_getD] at h);conv=>whnf)));(first|omega|rfl|exact inK_byte _|(simp only [inK,Int.toNat_natCast,etas,elDef,m47,m67,m67]<;>first|omega|grind)|grind [inK,m47,m67,m67]))) ?_|refine And.intro ?_ ?_)<;>conv=>whnf)|exact True.intro|(intro;conv=>whnf)
  · exact hK _ (.inl rfl)
  · exact hK _ (.inl rfl)
  · exact hK _ (.inl rfl)
  · rename_i r1 hr1 _ r2 hr2
    have h5 : smNs n.kids ∧ (totNs n.kids : Int) ≤ 3 * (r1 - r2) := by rcases hr2 with h | h; omega; exact h.2.2
    have h6 := h5.2
    have h7 := totN_eq n
    exact hK _ (.inr ⟨by omega, by omega, smN_of (by omega) (by omega) h5.1, by omega⟩)
noncomputable def E67 (k : Nat) : Ctx := mkE tab [(47, .gen .ps (Ck47 k))]
noncomputable def O67 : Nat → List DI := ordL []
theorem a67 (k : Nat) (l : List Nd) (m : Int) (hm : m67 l m < k + 1) (hb : BdAs [.ps .node l, .int .i64 m]) (K : AV → List AV → Prop) (h : c67 l m K) : abody (E67 k) O67 .ps Tryd.f67 (Tryd.f67.body.getD .skip) [.ps .node l, .int .i64 m] K := by
  simp only [BdAs, BdA, BdL, BdC, MX, ndC, shC, itC, stC, opC, chC, nwC, flC, rqC, rsC, enc, List.cons_append, List.nil_append, and_true, true_and] at hb
  unfold c67 at h
  unfold m67 at hm
  obtain ⟨⟨hm, hx⟩, hK⟩ := h
  have hkid : ∀ j, j < l.length → SizeOf.sizeOf (l.getD j default) < k ∧ bdN (l.getD j default) := fun j hj => ⟨by have := mem_size hj; omega, bdN_getD hx hj⟩
  conv => whnf
  repeat' first|((first|refine Cnd.mk (fun h=>?_) (fun h=>?_)|refine Gd.mk (fun h=>?_))<;>(try simp [etas,elDef,-List.getD_eq_getElem?_getD] at h)<;>conv=>whnf)|((first|refine Obl.mk (by first|omega|rfl|exact inK_byte _|(simp only [inK,Int.toNat_natCast,etas,elDef,m47,m67,m47]<;>first|omega|grind)|grind [inK,m47,m67,m47]) ?_|refine OblG.mk (by ((conv=>whnf);(repeat (first|refine Bx.mk ?_|(intro h;(try simp [etas,elDef,-List.getD_eq_getElem?_getD] at h);conv=>whnf)));(first|omega|rfl|exact inK_byte _|(simp only [inK,Int.toNat_natCast,etas,elDef,m47,m67,m47]<;>first|omega|grind)|grind [inK,m47,m67,m47]))) ?_|refine And.intro ?_ ?_)<;>conv=>whnf)|exact True.intro|(intro;conv=>whnf)
  · exact hK _ (.inl rfl)
  have hz0 : totNs (l.take 0) = 0 := rfl
  refine aloop_intro (Nat × Int) (fun ⟨i, q⟩ => i ≤ l.length ∧ 0 ≤ q ∧ q ≤ m ∧ (∀ j, j < i → smN (l.getD j default)) ∧ (totNs (l.take i) : Int) + 3 * q ≤ 3 * (m - l.length) + 3 * i) (fun ⟨i, q⟩ => l.length - i) (fun ⟨i, q⟩ => [(5, .int .i64 i), (1, .int .i64 q)]) (fun ⟨i, q⟩ => []) [] (0, m - l.length) [] [] ?_ ?_ (by exact sgOk_of (by rfl)) ?_
  · first | (simp; done) | (simp; assumption) | (simp only; grind)
  · iterate 2 ((all_goals (conv=>whnf));(repeat' (first|exact trivial|rfl|(refine nilEq ?_;first|rfl|(simp only [*];done)|(simp [*];done)|grind)|apply And.intro|((first|apply intEq|apply boolEq|apply strEq|apply psEq|apply nilEq|apply arrEq);(try simp only [Int.toNat_natCast,etas,elDef]);first | done | omega | grind | (simp only [*]; done) | (simp [*]; done)))));(all_goals ((try simp only [Int.toNat_natCast,etas,elDef]);first | done | omega | grind | (simp only [*]; done) | (simp [*]; done)))
  rintro ⟨i, q⟩ hinv
  dsimp only at hinv
  conv => whnf
  obtain ⟨hi1, hi2, hi3, hi4, hi5⟩ := hinv
  have htk := fun h => totNs_take (l := l) (i := i) h
  repeat' first|((first|refine Cnd.mk (fun h=>?_) (fun h=>?_)|refine Gd.mk (fun h=>?_))<;>(try simp [etas,elDef,-List.getD_eq_getElem?_getD] at h)<;>conv=>whnf)|((first|refine Obl.mk (by first|omega|rfl|exact inK_byte _|(simp only [inK,Int.toNat_natCast,etas,elDef,m47,m67,m47]<;>first|omega|grind)|grind [inK,m47,m67,m47]) ?_|refine OblG.mk (by ((conv=>whnf);(repeat (first|refine Bx.mk ?_|(intro h;(try simp [etas,elDef,-List.getD_eq_getElem?_getD] at h);conv=>whnf)));(first|omega|rfl|exact inK_byte _|(simp only [inK,Int.toNat_natCast,etas,elDef,m47,m67,m47]<;>first|omega|grind)|grind [inK,m47,m67,m47]))) ?_|refine And.intro ?_ ?_)<;>conv=>whnf)|exact True.intro|(intro;conv=>whnf)
  · exact hK _ (.inl rfl)
  · rename_i _ r hr
    have htk := htk ‹_›
    have h5 : smN (l.getD i default) ∧ (totN (l.getD i default) : Int) ≤ 3 + 3 * (q - r) := by
      rcases hr with h | h
      · omega
      · have h6 := h.2.2
        simp only [nd_eta, getD_nat] at h6
        exact h6
    have h6 := h5.2
    exact ⟨(i + 1, r), [], [], ⟨by omega, by omega, by omega, fun j hj => by rcases Nat.lt_succ_iff_lt_or_eq.1 hj with h | h; exact hi4 j h; rw [h]; exact h5.1, by rw [htk]; push_cast; omega⟩, by simp only; omega, by iterate 2 ((all_goals (conv=>whnf));(repeat' (first|exact trivial|rfl|(refine nilEq ?_;first|rfl|(simp only [*];done)|(simp [*];done)|grind)|apply And.intro|((first|apply intEq|apply boolEq|apply strEq|apply psEq|apply nilEq|apply arrEq);(try simp only [Int.toNat_natCast,etas,elDef]);first | done | omega | grind | (simp only [*]; done) | (simp [*]; done)))));(all_goals ((try simp only [Int.toNat_natCast,etas,elDef]);first | done | omega | grind | (simp only [*]; done) | (simp [*]; done))), (by exact sgOk_of (by rfl))⟩
  · have e1 : l.take i = l := List.take_of_length_le (by omega)
    rw [e1] at hi5
    exact hK _ (.inr ⟨by omega, by omega, smNs_of (by omega) fun j hj => hi4 j (by omega), by omega⟩)
theorem r47_67 : ∀ k, (CtrOK Tryd.prog 47 (.gen .ps (Ck47 k)) ∧ Callable Tryd.prog 47) ∧ (CtrOK Tryd.prog 67 (.gen .ps (Ck67 k)) ∧ Callable Tryd.prog 67) := by
  intro k
  induction k with
  | zero =>
    exact ⟨⟨fun args K h => by
        unfold Ck47 at h; split at h
        · exact absurd h.o (Nat.not_lt_zero _)
        · exact h.elim, callable Tryd.func47 rfl (by rfl)⟩, ⟨fun args K h => by
        unfold Ck67 at h; split at h
        · exact absurd h.o (Nat.not_lt_zero _)
        · exact h.elim, callable Tryd.func67 rfl (by rfl)⟩⟩
  | succ k ih =>
    refine ⟨?_, ?_⟩
    · refine gen_ok (E := E47 k) (mkE_cons s46 (mkE_cons ih.2 (mkE_nil tab_ok))) mix (O := O47) (C := (Ck47 (k + 1))) (own := .ps) Tryd.func47 rfl (by rfl) (by kernel_rfl) (fun args K h hbd => ?_)
      unfold Ck47 at h; split at h
      case h_2 => exact h.elim
      exact ⟨Nat.le_of_ble_eq_true rfl, a47 k ⟨_, _, _, _, _⟩ _ h.o (by exact hbd) _ h.k⟩
    · refine gen_ok (E := E67 k) (mkE_cons ih.1 (mkE_nil tab_ok)) mix (O := O67) (C := (Ck67 (k + 1))) (own := .ps) Tryd.func67 rfl (by rfl) (by kernel_rfl) (fun args K h hbd => ?_)
      unfold Ck67 at h; split at h
      case h_2 => exact h.elim
      exact ⟨Nat.le_of_ble_eq_true rfl, a67 k _ _ h.o (by exact hbd) _ h.k⟩
theorem s47 : (CtrOK Tryd.prog 47 (.gen .ps C47) ∧ Callable Tryd.prog 47) := by
  refine ⟨fun args K h => ?_, (r47_67 0).1.2⟩
  unfold C47 at h; split at h
  · exact (r47_67 (m47 ⟨_, _, _, _, _⟩ _ + 1)).1.1 _ K ⟨Nat.lt_succ_self _, h⟩
  · exact h.elim
noncomputable def c55 (n : Nd) (K : AV → List AV → Prop) : Prop :=
    Obl (smN n) (K (.st (ndC n)) [])
noncomputable def m55 (n : Nd) : Nat := SizeOf.sizeOf n
noncomputable def C55 : List AV → (AV → List AV → Prop) → Prop
  | [.st [.int .i64 n_0, .int .i64 n_1, .str n_2, .ps .str n_3, .ps .node n_4]], K => c55 ⟨n_0, n_1, n_2, n_3, n_4⟩ K
  | _, _ => False
noncomputable def v11 (a : List Bs) (b : List Bs) : AV := .bool (eqD a b)
noncomputable def o11 (a : List Bs) (b : List Bs) : Prop := True
noncomputable def F11 : List AV → QR
  | [.ps .str a, .ps .str b] => some (none, v11 a b)
  | _ => none
noncomputable def E11 : Ctx := mkE tab []
noncomputable def O11 : Nat → List DI := ordL [(6, [.q 0, .q 1, .q 2, .q 3, .q 4, .q 5, .q 6, .q 7, .q 8])]
theorem a11 (a : List Bs) (b : List Bs) (hb : BdAs [.ps .str a, .ps .str b]) (ho : o11 a b) (K : AV → List AV → Prop) (hK : K (v11 a b) []) : abody E11 O11 .ps Tryd.f11 (Tryd.f11.body.getD .skip) [.ps .str a, .ps .str b] K := by
  simp only [BdAs, BdA, BdL, BdC, MX, ndC, shC, itC, stC, opC, chC, nwC, flC, rqC, rsC, enc, List.cons_append, List.nil_append, and_true, true_and] at hb
  unfold v11 at hK
  conv => whnf
  repeat' first|((first|refine Cnd.mk (fun h=>?_) (fun h=>?_)|refine Gd.mk (fun h=>?_))<;>(try simp [etas,elDef,-List.getD_eq_getElem?_getD] at h)<;>conv=>whnf)|((first|refine Obl.mk (by first|omega|rfl|exact inK_byte _|(simp only [inK,Int.toNat_natCast,etas,elDef]<;>first|omega|grind)|grind [inK]) ?_|refine OblG.mk (by ((conv=>whnf);(repeat (first|refine Bx.mk ?_|(intro h;(try simp [etas,elDef,-List.getD_eq_getElem?_getD] at h);conv=>whnf)));(first|omega|rfl|exact inK_byte _|(simp only [inK,Int.toNat_natCast,etas,elDef]<;>first|omega|grind)|grind [inK]))) ?_|refine And.intro ?_ ?_)<;>conv=>whnf)|exact True.intro|(intro;conv=>whnf)
  · exact leafB hK (eqD_no.2 (by grind))
  refine aloop_intro Nat (fun k => k ≤ a.length ∧ ∀ j, j < k → a.getD j [] = b.getD j []) (fun k => a.length - k) (fun k => [(5, .int .i64 k)]) (fun _ => []) [] 0 [] [] (by simp) ?_ (by exact sgOk_of (by rfl)) ?_
  · iterate 2 ((all_goals (conv=>whnf));(repeat' (first|exact trivial|rfl|(refine nilEq ?_;first|rfl|(simp only [*];done)|(simp [*];done)|grind)|apply And.intro|((first|apply intEq|apply boolEq|apply strEq|apply psEq|apply nilEq|apply arrEq);(try simp only [Int.toNat_natCast,etas,elDef]);first | done | omega | grind | (simp only [*]; done) | (simp [*]; done)))));(all_goals ((try simp only [Int.toNat_natCast,etas,elDef]);first | done | omega | grind | (simp only [*]; done) | (simp [*]; done)))
  rintro i ⟨hi, hj⟩
  conv => whnf
  repeat' first|((first|refine Cnd.mk (fun h=>?_) (fun h=>?_)|refine Gd.mk (fun h=>?_))<;>(try simp [etas,elDef,-List.getD_eq_getElem?_getD] at h)<;>conv=>whnf)|((first|refine Obl.mk (by first|omega|rfl|exact inK_byte _|(simp only [inK,Int.toNat_natCast,etas,elDef]<;>first|omega|grind)|grind [inK]) ?_|refine OblG.mk (by ((conv=>whnf);(repeat (first|refine Bx.mk ?_|(intro h;(try simp [etas,elDef,-List.getD_eq_getElem?_getD] at h);conv=>whnf)));(first|omega|rfl|exact inK_byte _|(simp only [inK,Int.toNat_natCast,etas,elDef]<;>first|omega|grind)|grind [inK]))) ?_|refine And.intro ?_ ?_)<;>conv=>whnf)|exact True.intro|(intro;conv=>whnf)
  · exact leafB hK (eqD_no.2 (by grind))
  · exact ⟨i + 1, [], [], ⟨by omega, by grind⟩, by omega, by iterate 2 ((all_goals (conv=>whnf));(repeat' (first|exact trivial|rfl|(refine nilEq ?_;first|rfl|(simp only [*];done)|(simp [*];done)|grind)|apply And.intro|((first|apply intEq|apply boolEq|apply strEq|apply psEq|apply nilEq|apply arrEq);(try simp only [Int.toNat_natCast,etas,elDef]);first | done | omega | grind | (simp only [*]; done) | (simp [*]; done)))));(all_goals ((try simp only [Int.toNat_natCast,etas,elDef]);first | done | omega | grind | (simp only [*]; done) | (simp [*]; done))), (by exact sgOk_of (by rfl))⟩
  · exact leafB hK (eqD_iff.2 (listEq [] (by omega) (by grind)))
theorem s11 : (CtrOK Tryd.prog 11 (.pure F11) ∧ Callable Tryd.prog 11) := by
  refine pure_ok (E := E11) (mkE_nil tab_ok) mix (O := O11) (F := F11) Tryd.func11 rfl (by rfl) (by kernel_rfl) (fun args o v h => ?_) (fun args o v h => ?_) (fun args o v h hbd hp K hK => ?_)
  · unfold F11 at h; split at h <;> cases h; first | trivial | (simp [v11, Scalar, Scalar2, Scalar1, stC, ndC, itC, chC, nwC])
  · unfold F11 at h; split at h <;> cases h; exact Nat.le_of_ble_eq_true rfl
  · unfold F11 at h; split at h
    case h_2 => cases h
    cases h
    exact a11 _ _ (by exact hbd) trivial K hK
noncomputable def v60 (a : Nd) (b : Nd) : AV := .bool (eqD a b)
noncomputable def o60 (a : Nd) (b : Nd) : Prop := True
noncomputable def m60 (a : Nd) (b : Nd) : Nat := SizeOf.sizeOf a
noncomputable def F60 : List AV → QR
  | [.st [.int .i64 a_0, .int .i64 a_1, .str a_2, .ps .str a_3, .ps .node a_4], .st [.int .i64 b_0, .int .i64 b_1, .str b_2, .ps .str b_3, .ps .node b_4]] => some (none, v60 ⟨a_0, a_1, a_2, a_3, a_4⟩ ⟨b_0, b_1, b_2, b_3, b_4⟩)
  | _ => none
noncomputable def Fk60 (k : Nat) : List AV → QR
  | [.st [.int .i64 a_0, .int .i64 a_1, .str a_2, .ps .str a_3, .ps .node a_4], .st [.int .i64 b_0, .int .i64 b_1, .str b_2, .ps .str b_3, .ps .node b_4]] => some (some (m60 ⟨a_0, a_1, a_2, a_3, a_4⟩ ⟨b_0, b_1, b_2, b_3, b_4⟩ < k ∧ o60 ⟨a_0, a_1, a_2, a_3, a_4⟩ ⟨b_0, b_1, b_2, b_3, b_4⟩), v60 ⟨a_0, a_1, a_2, a_3, a_4⟩ ⟨b_0, b_1, b_2, b_3, b_4⟩)
  | _ => none
noncomputable def v78 (a : List Nd) (b : List Nd) : AV := .bool (eqD a b)
noncomputable def o78 (a : List Nd) (b : List Nd) : Prop := True
noncomputable def m78 (a : List Nd) (b : List Nd) : Nat := SizeOf.sizeOf a
noncomputable def Fk78 (k : Nat) : List AV → QR
  | [.ps .node a, .ps .node b] => some (some (m78 a b < k ∧ o78 a b), v78 a b)
  | _ => none
noncomputable def E60 (k : Nat) : Ctx := mkE tab [(11, .pure F11), (78, .pure (Fk78 k))]
noncomputable def O60 : Nat → List DI := ordL []
theorem a60 (k : Nat) (a : Nd) (b : Nd) (hm : m60 a b < k + 1) (hb : BdAs [.st (ndC a), .st (ndC b)]) (ho : o60 a b) (K : AV → List AV → Prop) (hK : K (v60 a b) []) : abody (E60 k) O60 .ps Tryd.f60 (Tryd.f60.body.getD .skip) [.st (ndC a), .st (ndC b)] K := by
  simp only [BdAs, BdA, BdL, BdC, MX, ndC, shC, itC, stC, opC, chC, nwC, flC, rqC, rsC, enc, List.cons_append, List.nil_append, and_true, true_and] at hb
  unfold v60 at hK
  unfold m60 at hm
  have h1 := kids_size a
  conv => whnf
  repeat' first|((first|refine Cnd.mk (fun h=>?_) (fun h=>?_)|refine Gd.mk (fun h=>?_))<;>(try simp [etas,elDef,-List.getD_eq_getElem?_getD] at h)<;>conv=>whnf)|((first|refine Obl.mk (by first|omega|rfl|exact inK_byte _|(simp only [inK,Int.toNat_natCast,etas,elDef,m60,m78,o78,m78]<;>first|omega|grind)|grind [inK,m60,m78,o78,m78]) ?_|refine OblG.mk (by ((conv=>whnf);(repeat (first|refine Bx.mk ?_|(intro h;(try simp [etas,elDef,-List.getD_eq_getElem?_getD] at h);conv=>whnf)));(first|omega|rfl|exact inK_byte _|(simp only [inK,Int.toNat_natCast,etas,elDef,m60,m78,o78,m78]<;>first|omega|grind)|grind [inK,m60,m78,o78,m78]))) ?_|refine And.intro ?_ ?_)<;>conv=>whnf)|exact True.intro|(intro;conv=>whnf)
  · exact leafB hK (eqD_no.2 (by grind))
  · exact leafB hK (eqD_no.2 (by grind))
  · exact leafB hK (eqD_no.2 (by grind))
  · exact leafB hK (eqD_no.2 (by grind [eqD_no]))
  · exact leafB hK (eqD_no.2 (by grind [eqD_no]))
  · exact leafB hK (eqD_iff.2 (nd_ext (by grind) (by grind) (by grind) (by grind [eqD_iff]) (by grind [eqD_iff])))
noncomputable def E78 (k : Nat) : Ctx := mkE tab [(60, .pure (Fk60 k))]
noncomputable def O78 : Nat → List DI := ordL [(6, [.q 0, .q 1, .q 2, .q 3, .q 4, .q 5, .q 6, .q 7, .q 8, .q 9])]
theorem a78 (k : Nat) (a : List Nd) (b : List Nd) (hm : m78 a b < k + 1) (hb : BdAs [.ps .node a, .ps .node b]) (ho : o78 a b) (K : AV → List AV → Prop) (hK : K (v78 a b) []) : abody (E78 k) O78 .ps Tryd.f78 (Tryd.f78.body.getD .skip) [.ps .node a, .ps .node b] K := by
  simp only [BdAs, BdA, BdL, BdC, MX, ndC, shC, itC, stC, opC, chC, nwC, flC, rqC, rsC, enc, List.cons_append, List.nil_append, and_true, true_and] at hb
  unfold v78 at hK
  unfold m78 at hm
  have hkid : ∀ j, j < a.length → SizeOf.sizeOf (a.getD j default) < k := fun j hj => by have := mem_size hj; omega
  conv => whnf
  repeat' first|((first|refine Cnd.mk (fun h=>?_) (fun h=>?_)|refine Gd.mk (fun h=>?_))<;>(try simp [etas,elDef,-List.getD_eq_getElem?_getD] at h)<;>conv=>whnf)|((first|refine Obl.mk (by first|omega|rfl|exact inK_byte _|(simp only [inK,Int.toNat_natCast,etas,elDef,m60,m78,o60,m60]<;>first|omega|grind)|grind [inK,m60,m78,o60,m60]) ?_|refine OblG.mk (by ((conv=>whnf);(repeat (first|refine Bx.mk ?_|(intro h;(try simp [etas,elDef,-List.getD_eq_getElem?_getD] at h);conv=>whnf)));(first|omega|rfl|exact inK_byte _|(simp only [inK,Int.toNat_natCast,etas,elDef,m60,m78,o60,m60]<;>first|omega|grind)|grind [inK,m60,m78,o60,m60]))) ?_|refine And.intro ?_ ?_)<;>conv=>whnf)|exact True.intro|(intro;conv=>whnf)
  · exact leafB hK (eqD_no.2 (by grind))
  refine aloop_intro Nat (fun k => k ≤ a.length ∧ ∀ j, j < k → a.getD j default = b.getD j default) (fun k => a.length - k) (fun k => [(5, .int .i64 k)]) (fun _ => []) [] 0 [] [] (by simp) ?_ (by exact sgOk_of (by rfl)) ?_
  · iterate 2 ((all_goals (conv=>whnf));(repeat' (first|exact trivial|rfl|(refine nilEq ?_;first|rfl|(simp only [*];done)|(simp [*];done)|grind)|apply And.intro|((first|apply intEq|apply boolEq|apply strEq|apply psEq|apply nilEq|apply arrEq);(try simp only [Int.toNat_natCast,etas,elDef]);first | done | omega | grind | (simp only [*]; done) | (simp [*]; done)))));(all_goals ((try simp only [Int.toNat_natCast,etas,elDef]);first | done | omega | grind | (simp only [*]; done) | (simp [*]; done)))
  rintro i ⟨hi, hj⟩
  conv => whnf
  repeat' first|((first|refine Cnd.mk (fun h=>?_) (fun h=>?_)|refine Gd.mk (fun h=>?_))<;>(try simp [etas,elDef,-List.getD_eq_getElem?_getD] at h)<;>conv=>whnf)|((first|refine Obl.mk (by first|omega|rfl|exact inK_byte _|(simp only [inK,Int.toNat_natCast,etas,elDef,m60,m78,o60,m60]<;>first|omega|grind)|grind [inK,m60,m78,o60,m60]) ?_|refine OblG.mk (by ((conv=>whnf);(repeat (first|refine Bx.mk ?_|(intro h;(try simp [etas,elDef,-List.getD_eq_getElem?_getD] at h);conv=>whnf)));(first|omega|rfl|exact inK_byte _|(simp only [inK,Int.toNat_natCast,etas,elDef,m60,m78,o60,m60]<;>first|omega|grind)|grind [inK,m60,m78,o60,m60]))) ?_|refine And.intro ?_ ?_)<;>conv=>whnf)|exact True.intro|(intro;conv=>whnf)
  · exact leafB hK (eqD_no.2 (by grind [eqD_no]))
  · exact ⟨i + 1, [], [], ⟨by omega, by grind [eqD_iff]⟩, by omega, by iterate 2 ((all_goals (conv=>whnf));(repeat' (first|exact trivial|rfl|(refine nilEq ?_;first|rfl|(simp only [*];done)|(simp [*];done)|grind)|apply And.intro|((first|apply intEq|apply boolEq|apply strEq|apply psEq|apply nilEq|apply arrEq);(try simp only [Int.toNat_natCast,etas,elDef]);first | done | omega | grind | (simp only [*]; done) | (simp [*]; done)))));(all_goals ((try simp only [Int.toNat_natCast,etas,elDef]);first | done | omega | grind | (simp only [*]; done) | (simp [*]; done))), (by exact sgOk_of (by rfl))⟩
  · exact leafB hK (eqD_iff.2 (listEq default (by omega) (by grind)))
theorem r60_78 : ∀ k, (CtrOK Tryd.prog 60 (.pure (Fk60 k)) ∧ Callable Tryd.prog 60) ∧ (CtrOK Tryd.prog 78 (.pure (Fk78 k)) ∧ Callable Tryd.prog 78) := by
  intro k
  induction k with
  | zero =>
    exact ⟨⟨⟨fun args o v h => by unfold Fk60 at h; split at h <;> cases h; first | trivial | (simp [v60, Scalar, Scalar2, Scalar1, stC, ndC, itC, chC, nwC]), fun args K h => by
        unfold pureC Fk60 at h; split at h
        · rename_i h1; split at h1 <;> cases h1; exact absurd (h.1 _ rfl).1 (Nat.not_lt_zero _)
        · exact h.elim⟩, callable Tryd.func60 rfl (by rfl)⟩, ⟨⟨fun args o v h => by unfold Fk78 at h; split at h <;> cases h; first | trivial | (simp [v78, Scalar, Scalar2, Scalar1, stC, ndC, itC, chC, nwC]), fun args K h => by
        unfold pureC Fk78 at h; split at h
        · rename_i h1; split at h1 <;> cases h1; exact absurd (h.1 _ rfl).1 (Nat.not_lt_zero _)
        · exact h.elim⟩, callable Tryd.func78 rfl (by rfl)⟩⟩
  | succ k ih =>
    refine ⟨?_, ?_⟩
    · refine pure_ok (E := E60 k) (mkE_cons s11 (mkE_cons ih.2 (mkE_nil tab_ok))) mix (O := O60) (F := (Fk60 (k + 1))) Tryd.func60 rfl (by rfl) (by kernel_rfl) (fun args o v h => ?_) (fun args o v h => ?_) (fun args o v h hbd hp K hK => ?_)
      · unfold Fk60 at h; split at h <;> cases h; first | trivial | (simp [v60, Scalar, Scalar2, Scalar1, stC, ndC, itC, chC, nwC])
      · unfold Fk60 at h; split at h <;> cases h; exact Nat.le_of_ble_eq_true rfl
      · unfold Fk60 at h; split at h
        case h_2 => cases h
        cases h
        exact a60 k ⟨_, _, _, _, _⟩ ⟨_, _, _, _, _⟩ (hp _ rfl).1 (by exact hbd) (hp _ rfl).2 K hK
    · refine pure_ok (E := E78 k) (mkE_cons ih.1 (mkE_nil tab_ok)) mix (O := O78) (F := (Fk78 (k + 1))) Tryd.func78 rfl (by rfl) (by kernel_rfl) (fun args o v h => ?_) (fun args o v h => ?_) (fun args o v h hbd hp K hK => ?_)
      · unfold Fk78 at h; split at h <;> cases h; first | trivial | (simp [v78, Scalar, Scalar2, Scalar1, stC, ndC, itC, chC, nwC])
      · unfold Fk78 at h; split at h <;> cases h; exact Nat.le_of_ble_eq_true rfl
      · unfold Fk78 at h; split at h
        case h_2 => cases h
        cases h
        exact a78 k _ _ (hp _ rfl).1 (by exact hbd) (hp _ rfl).2 K hK
theorem s60 : (CtrOK Tryd.prog 60 (.pure F60) ∧ Callable Tryd.prog 60) := by
  refine ⟨⟨fun args o v h => ?_, fun args K h => ?_⟩, (r60_78 0).1.2⟩
  · unfold F60 at h; split at h <;> cases h; first | trivial | (simp [v60, Scalar, Scalar2, Scalar1, stC, ndC, itC, chC, nwC])
  · unfold pureC F60 at h; split at h
    · rename_i h1; split at h1 <;> cases h1
      exact (r60_78 (m60 ⟨_, _, _, _, _⟩ ⟨_, _, _, _, _⟩ + 1)).1.1.2 _ K ⟨fun p hp => by cases hp; exact ⟨Nat.lt_succ_self _, trivial⟩, h.2⟩
    · exact h.elim
noncomputable def c45 (x : It) (m : Int) (K : AV → List AV → Prop) : Prop :=
    Obl ((0 ≤ m ∧ m ≤ 1048576) ∧ bdN x.node) (∀ r : Int, szOk m r (smN x.node ∧ (totN x.node : Int) ≤ 3 + 3 * (m - r)) → K (.int .i64 r) [])
noncomputable def C45 : List AV → (AV → List AV → Prop) → Prop
  | [.st [.str x_0, .int .i64 x_1, .int .i64 x_2_0, .int .i64 x_2_1, .str x_2_2, .ps .str x_2_3, .ps .node x_2_4], .int .i64 m], K => c45 ⟨x_0, x_1, ⟨x_2_0, x_2_1, x_2_2, x_2_3, x_2_4⟩⟩ m K
  | _, _ => False
noncomputable def E45 : Ctx := mkE tab [(47, .gen .ps C47)]
noncomputable def O45 : Nat → List DI := ordL []
theorem a45 (x : It) (m : Int) (hb : BdAs [.st (itC x), .int .i64 m]) (K : AV → List AV → Prop) (h : c45 x m K) : abody E45 O45 .ps Tryd.f45 (Tryd.f45.body.getD .skip) [.st (itC x), .int .i64 m] K := by
  simp only [BdAs, BdA, BdL, BdC, MX, ndC, shC, itC, stC, opC, chC, nwC, flC, rqC, rsC, enc, List.cons_append, List.nil_append, and_true, true_and] at hb
  unfold c45 at h
  obtain ⟨⟨hm, hx⟩, hK⟩ := h
  conv => whnf
  repeat' first|((first|refine Cnd.mk (fun h=>?_) (fun h=>?_)|refine Gd.mk (fun h=>?_))<;>(try simp [etas,elDef,-List.getD_eq_getElem?_getD] at h)<;>conv=>whnf)|((first|refine Obl.mk (by first|omega|rfl|exact inK_byte _|(simp only [inK,Int.toNat_natCast,etas,elDef,m47]<;>first|omega|grind)|grind [inK,m47]) ?_|refine OblG.mk (by ((conv=>whnf);(repeat (first|refine Bx.mk ?_|(intro h;(try simp [etas,elDef,-List.getD_eq_getElem?_getD] at h);conv=>whnf)));(first|omega|rfl|exact inK_byte _|(simp only [inK,Int.toNat_natCast,etas,elDef,m47]<;>first|omega|grind)|grind [inK,m47]))) ?_|refine And.intro ?_ ?_)<;>conv=>whnf)|exact True.intro|(intro;conv=>whnf)
  · exact hK _ (.inl rfl)
  · exact hK _ (.inl rfl)
  · rename_i r hr
    have h5 : smN x.node ∧ (totN x.node : Int) ≤ 3 + 3 * (m - x.name.length - r) := by
      rcases hr with h | h
      · omega
      · have h6 := h.2.2
        simp only [nd_eta] at h6
        exact h6
    have h6 := h5.2
    exact hK _ (.inr ⟨by omega, by omega, h5.1, by omega⟩)
theorem s45 : (CtrOK Tryd.prog 45 (.gen .ps C45) ∧ Callable Tryd.prog 45) := by
  refine gen_ok (E := E45) (mkE_cons s47 (mkE_nil tab_ok)) mix (O := O45) (C := C45) (own := .ps) Tryd.func45 rfl (by rfl) (by kernel_rfl) (fun args K h hbd => ?_)
  unfold C45 at h; split at h
  case h_2 => exact h.elim
  exact ⟨Nat.le_of_ble_eq_true rfl, a45 ⟨_, _, ⟨_, _, _, _, _⟩⟩ _ (by exact hbd) _ h⟩
noncomputable def c21 (l : List It) (m : Int) (K : AV → List AV → Prop) : Prop :=
    Obl ((0 ≤ m ∧ m ≤ 1048576) ∧ ∀ x ∈ l, bdN x.node) (∀ r : Int, szOk m r (smIs l ∧ (totIs l : Int) ≤ 5 * (m - r)) → K (.int .i64 r) [])
noncomputable def C21 : List AV → (AV → List AV → Prop) → Prop
  | [.ps .item l, .int .i64 m], K => c21 l m K
  | _, _ => False
noncomputable def E21 : Ctx := mkE tab [(45, .gen .ps C45)]
noncomputable def O21 : Nat → List DI := ordL []
theorem a21 (l : List It) (m : Int) (hb : BdAs [.ps .item l, .int .i64 m]) (K : AV → List AV → Prop) (h : c21 l m K) : abody E21 O21 .ps Tryd.f21 (Tryd.f21.body.getD .skip) [.ps .item l, .int .i64 m] K := by
  simp only [BdAs, BdA, BdL, BdC, MX, ndC, shC, itC, stC, opC, chC, nwC, flC, rqC, rsC, enc, List.cons_append, List.nil_append, and_true, true_and] at hb
  unfold c21 at h
  obtain ⟨⟨hm, hx⟩, hK⟩ := h
  have hkid : ∀ j, j < l.length → bdN (l.getD j default).node := fun j hj => by rw [getD_get hj]; exact hx _ (List.getElem_mem hj)
  conv => whnf
  repeat' first|((first|refine Cnd.mk (fun h=>?_) (fun h=>?_)|refine Gd.mk (fun h=>?_))<;>(try simp [etas,elDef,-List.getD_eq_getElem?_getD] at h)<;>conv=>whnf)|((first|refine Obl.mk (by first|omega|rfl|exact inK_byte _|(simp only [inK,Int.toNat_natCast,etas,elDef]<;>first|omega|grind)|grind [inK]) ?_|refine OblG.mk (by ((conv=>whnf);(repeat (first|refine Bx.mk ?_|(intro h;(try simp [etas,elDef,-List.getD_eq_getElem?_getD] at h);conv=>whnf)));(first|omega|rfl|exact inK_byte _|(simp only [inK,Int.toNat_natCast,etas,elDef]<;>first|omega|grind)|grind [inK]))) ?_|refine And.intro ?_ ?_)<;>conv=>whnf)|exact True.intro|(intro;conv=>whnf)
  · exact hK _ (.inl rfl)
  have hz0 : totIs (l.take 0) = 0 := rfl
  refine aloop_intro (Nat × Int) (fun ⟨i, q⟩ => i ≤ l.length ∧ 0 ≤ q ∧ q ≤ m ∧ (∀ j, j < i → smN (l.getD j default).node) ∧ (totIs (l.take i) : Int) + 5 * q ≤ 5 * (m - l.length) + 5 * i) (fun ⟨i, q⟩ => l.length - i) (fun ⟨i, q⟩ => [(5, .int .i64 i), (1, .int .i64 q)]) (fun ⟨i, q⟩ => []) [] (0, m - l.length) [] [] ?_ ?_ (by exact sgOk_of (by rfl)) ?_
  · first | (simp; done) | (simp; assumption) | (simp only; grind)
  · iterate 2 ((all_goals (conv=>whnf));(repeat' (first|exact trivial|rfl|(refine nilEq ?_;first|rfl|(simp only [*];done)|(simp [*];done)|grind)|apply And.intro|((first|apply intEq|apply boolEq|apply strEq|apply psEq|apply nilEq|apply arrEq);(try simp only [Int.toNat_natCast,etas,elDef]);first | done | omega | grind | (simp only [*]; done) | (simp [*]; done)))));(all_goals ((try simp only [Int.toNat_natCast,etas,elDef]);first | done | omega | grind | (simp only [*]; done) | (simp [*]; done)))
  rintro ⟨i, q⟩ hinv
  dsimp only at hinv
  conv => whnf
  obtain ⟨hi1, hi2, hi3, hi4, hi5⟩ := hinv
  have htk := fun h => totIs_take (l := l) (i := i) h
  repeat' first|((first|refine Cnd.mk (fun h=>?_) (fun h=>?_)|refine Gd.mk (fun h=>?_))<;>(try simp [etas,elDef,-List.getD_eq_getElem?_getD] at h)<;>conv=>whnf)|((first|refine Obl.mk (by first|omega|rfl|exact inK_byte _|(simp only [inK,Int.toNat_natCast,etas,elDef]<;>first|omega|grind)|grind [inK]) ?_|refine OblG.mk (by ((conv=>whnf);(repeat (first|refine Bx.mk ?_|(intro h;(try simp [etas,elDef,-List.getD_eq_getElem?_getD] at h);conv=>whnf)));(first|omega|rfl|exact inK_byte _|(simp only [inK,Int.toNat_natCast,etas,elDef]<;>first|omega|grind)|grind [inK]))) ?_|refine And.intro ?_ ?_)<;>conv=>whnf)|exact True.intro|(intro;conv=>whnf)
  · exact hK _ (.inl rfl)
  · rename_i _ r hr
    have htk := htk ‹_›
    have h5 : smN (l.getD i default).node ∧ (totN (l.getD i default).node : Int) ≤ 3 + 3 * (q - r) := by
      rcases hr with h | h
      · omega
      · have h6 := h.2.2
        simp only [nd_eta, getD_nat] at h6
        exact h6
    have h6 := h5.2
    exact ⟨(i + 1, r), [], [], ⟨by omega, by omega, by omega, fun j hj => by rcases Nat.lt_succ_iff_lt_or_eq.1 hj with h | h; exact hi4 j h; rw [h]; exact h5.1, by rw [htk]; push_cast; omega⟩, by simp only; omega, by iterate 2 ((all_goals (conv=>whnf));(repeat' (first|exact trivial|rfl|(refine nilEq ?_;first|rfl|(simp only [*];done)|(simp [*];done)|grind)|apply And.intro|((first|apply intEq|apply boolEq|apply strEq|apply psEq|apply nilEq|apply arrEq);(try simp only [Int.toNat_natCast,etas,elDef]);first | done | omega | grind | (simp only [*]; done) | (simp [*]; done)))));(all_goals ((try simp only [Int.toNat_natCast,etas,elDef]);first | done | omega | grind | (simp only [*]; done) | (simp [*]; done))), (by exact sgOk_of (by rfl))⟩
  · have e1 : l.take i = l := List.take_of_length_le (by omega)
    rw [e1] at hi5
    exact hK _ (.inr ⟨by omega, by omega, smIs_of (by omega) fun j hj => hi4 j (by omega), by omega⟩)
theorem s21 : (CtrOK Tryd.prog 21 (.gen .ps C21) ∧ Callable Tryd.prog 21) := by
  refine gen_ok (E := E21) (mkE_cons s45 (mkE_nil tab_ok)) mix (O := O21) (C := C21) (own := .ps) Tryd.func21 rfl (by rfl) (by kernel_rfl) (fun args K h hbd => ?_)
  unfold C21 at h; split at h
  case h_2 => exact h.elim
  exact ⟨Nat.le_of_ble_eq_true rfl, a21 _ _ (by exact hbd) _ h⟩
noncomputable def c5 (s : Sto) (m : Int) (K : AV → List AV → Prop) : Prop :=
    Obl ((0 ≤ m ∧ m ≤ 1048576) ∧ ∀ x ∈ s.items, bdN x.node) (∀ r : Int, szOk m r (smIs s.items ∧ (totIs s.items : Int) ≤ 5 * (m - r)) → K (.int .i64 r) [])
noncomputable def C5 : List AV → (AV → List AV → Prop) → Prop
  | [.st [.ps .item s_0, .int .i64 s_1], .int .i64 m], K => c5 ⟨s_0, s_1⟩ m K
  | _, _ => False
noncomputable def E5 : Ctx := mkE tab [(21, .gen .ps C21)]
noncomputable def O5 : Nat → List DI := ordL []
theorem a5 (s : Sto) (m : Int) (hb : BdAs [.st (stC s), .int .i64 m]) (K : AV → List AV → Prop) (h : c5 s m K) : abody E5 O5 .ps Tryd.f5 (Tryd.f5.body.getD .skip) [.st (stC s), .int .i64 m] K := by
  simp only [BdAs, BdA, BdL, BdC, MX, ndC, shC, itC, stC, opC, chC, nwC, flC, rqC, rsC, enc, List.cons_append, List.nil_append, and_true, true_and] at hb
  unfold c5 at h
  obtain ⟨⟨hm, hx⟩, hK⟩ := h
  conv => whnf
  repeat' first|((first|refine Cnd.mk (fun h=>?_) (fun h=>?_)|refine Gd.mk (fun h=>?_))<;>(try simp [etas,elDef,-List.getD_eq_getElem?_getD] at h)<;>conv=>whnf)|((first|refine Obl.mk (by first|omega|rfl|exact inK_byte _|(simp only [inK,Int.toNat_natCast,etas,elDef]<;>first|omega|grind)|grind [inK]) ?_|refine OblG.mk (by ((conv=>whnf);(repeat (first|refine Bx.mk ?_|(intro h;(try simp [etas,elDef,-List.getD_eq_getElem?_getD] at h);conv=>whnf)));(first|omega|rfl|exact inK_byte _|(simp only [inK,Int.toNat_natCast,etas,elDef]<;>first|omega|grind)|grind [inK]))) ?_|refine And.intro ?_ ?_)<;>conv=>whnf)|exact True.intro|(intro;conv=>whnf)
  · exact hK _ (.inl rfl)
  · rename_i r hr
    exact hK _ hr
theorem s5 : (CtrOK Tryd.prog 5 (.gen .ps C5) ∧ Callable Tryd.prog 5) := by
  refine gen_ok (E := E5) (mkE_cons s21 (mkE_nil tab_ok)) mix (O := O5) (C := C5) (own := .ps) Tryd.func5 rfl (by rfl) (by kernel_rfl) (fun args K h hbd => ?_)
  unfold C5 at h; split at h
  case h_2 => exact h.elim
  exact ⟨Nat.le_of_ble_eq_true rfl, a5 ⟨_, _⟩ _ (by exact hbd) _ h⟩
noncomputable def c53 (x : It) (K : AV → List AV → Prop) : Prop :=
    Obl (smN x.node) (K (.st (itC x)) [])
noncomputable def E53 : Ctx := mkE tab [(55, .gen .ps C55)]
noncomputable def O53 : Nat → List DI := ordL []
theorem a53 (x : It) (hb : BdAs [.st (itC x)]) (K : AV → List AV → Prop) (h : c53 x K) : abody E53 O53 .ps Tryd.f53 (Tryd.f53.body.getD .skip) [.st (itC x)] K := by
  simp only [BdAs, BdA, BdL, BdC, MX, ndC, shC, itC, stC, opC, chC, nwC, flC, rqC, rsC, enc, List.cons_append, List.nil_append, and_true, true_and] at hb
  unfold c53 at h
  obtain ⟨hs, hK⟩ := h
  conv => whnf
  repeat' first|((first|refine Cnd.mk (fun h=>?_) (fun h=>?_)|refine Gd.mk (fun h=>?_))<;>(try simp [etas,elDef,-List.getD_eq_getElem?_getD] at h)<;>conv=>whnf)|((first|refine Obl.mk (by first|omega|rfl|exact inK_byte _|(simp only [inK,Int.toNat_natCast,etas,elDef,m55]<;>first|omega|grind)|grind [inK,m55]) ?_|refine OblG.mk (by ((conv=>whnf);(repeat (first|refine Bx.mk ?_|(intro h;(try simp [etas,elDef,-List.getD_eq_getElem?_getD] at h);conv=>whnf)));(first|omega|rfl|exact inK_byte _|(simp only [inK,Int.toNat_natCast,etas,elDef,m55]<;>first|omega|grind)|grind [inK,m55]))) ?_|refine And.intro ?_ ?_)<;>conv=>whnf)|exact True.intro|(intro;conv=>whnf)
  all_goals exact leafV hK rfl
noncomputable def v59 (a : It) (b : It) : AV := .bool (eqD a b)
noncomputable def o59 (a : It) (b : It) : Prop := True
noncomputable def F59 : List AV → QR
  | [.st [.str a_0, .int .i64 a_1, .int .i64 a_2_0, .int .i64 a_2_1, .str a_2_2, .ps .str a_2_3, .ps .node a_2_4], .st [.str b_0, .int .i64 b_1, .int .i64 b_2_0, .int .i64 b_2_1, .str b_2_2, .ps .str b_2_3, .ps .node b_2_4]] => some (none, v59 ⟨a_0, a_1, ⟨a_2_0, a_2_1, a_2_2, a_2_3, a_2_4⟩⟩ ⟨b_0, b_1, ⟨b_2_0, b_2_1, b_2_2, b_2_3, b_2_4⟩⟩)
  | _ => none
noncomputable def E59 : Ctx := mkE tab [(60, .pure F60)]
noncomputable def O59 : Nat → List DI := ordL []
theorem a59 (a : It) (b : It) (hb : BdAs [.st (itC a), .st (itC b)]) (ho : o59 a b) (K : AV → List AV → Prop) (hK : K (v59 a b) []) : abody E59 O59 .ps Tryd.f59 (Tryd.f59.body.getD .skip) [.st (itC a), .st (itC b)] K := by
  simp only [BdAs, BdA, BdL, BdC, MX, ndC, shC, itC, stC, opC, chC, nwC, flC, rqC, rsC, enc, List.cons_append, List.nil_append, and_true, true_and] at hb
  unfold v59 at hK
  conv => whnf
  repeat' first|((first|refine Cnd.mk (fun h=>?_) (fun h=>?_)|refine Gd.mk (fun h=>?_))<;>(try simp [etas,elDef,-List.getD_eq_getElem?_getD] at h)<;>conv=>whnf)|((first|refine Obl.mk (by first|omega|rfl|exact inK_byte _|(simp only [inK,Int.toNat_natCast,etas,elDef,o60,m60]<;>first|omega|grind)|grind [inK,o60,m60]) ?_|refine OblG.mk (by ((conv=>whnf);(repeat (first|refine Bx.mk ?_|(intro h;(try simp [etas,elDef,-List.getD_eq_getElem?_getD] at h);conv=>whnf)));(first|omega|rfl|exact inK_byte _|(simp only [inK,Int.toNat_natCast,etas,elDef,o60,m60]<;>first|omega|grind)|grind [inK,o60,m60]))) ?_|refine And.intro ?_ ?_)<;>conv=>whnf)|exact True.intro|(intro;conv=>whnf)
  · exact leafB hK (eqD_no.2 (by grind))
  · exact leafB hK (eqD_no.2 (by grind))
  · exact leafB hK (eqD_no.2 (by grind [eqD_no]))
  · exact leafB hK (eqD_iff.2 (it_ext (by grind) (by grind) (by grind [eqD_iff])))
theorem s59 : (CtrOK Tryd.prog 59 (.pure F59) ∧ Callable Tryd.prog 59) := by
  refine pure_ok (E := E59) (mkE_cons s60 (mkE_nil tab_ok)) mix (O := O59) (F := F59) Tryd.func59 rfl (by rfl) (by kernel_rfl) (fun args o v h => ?_) (fun args o v h => ?_) (fun args o v h hbd hp K hK => ?_)
  · unfold F59 at h; split at h <;> cases h; first | trivial | (simp [v59, Scalar, Scalar2, Scalar1, stC, ndC, itC, chC, nwC])
  · unfold F59 at h; split at h <;> cases h; exact Nat.le_of_ble_eq_true rfl
  · unfold F59 at h; split at h
    case h_2 => cases h
    cases h
    exact a59 ⟨_, _, ⟨_, _, _, _, _⟩⟩ ⟨_, _, ⟨_, _, _, _, _⟩⟩ (by exact hbd) trivial K hK
noncomputable def v29 (a : List It) (b : List It) : AV := .bool (eqD a b)
noncomputable def o29 (a : List It) (b : List It) : Prop := True
noncomputable def F29 : List AV → QR
  | [.ps .item a, .ps .item b] => some (none, v29 a b)
  | _ => none
noncomputable def E29 : Ctx := mkE tab [(59, .pure F59)]
noncomputable def O29 : Nat → List DI := ordL [(6, [.q 0, .q 1, .q 2, .q 3, .q 4, .q 5, .q 6, .q 7, .q 8, .q 9])]
theorem a29 (a : List It) (b : List It) (hb : BdAs [.ps .item a, .ps .item b]) (ho : o29 a b) (K : AV → List AV → Prop) (hK : K (v29 a b) []) : abody E29 O29 .ps Tryd.f29 (Tryd.f29.body.getD .skip) [.ps .item a, .ps .item b] K := by
  simp only [BdAs, BdA, BdL, BdC, MX, ndC, shC, itC, stC, opC, chC, nwC, flC, rqC, rsC, enc, List.cons_append, List.nil_append, and_true, true_and] at hb
  unfold v29 at hK
  conv => whnf
  repeat' first|((first|refine Cnd.mk (fun h=>?_) (fun h=>?_)|refine Gd.mk (fun h=>?_))<;>(try simp [etas,elDef,-List.getD_eq_getElem?_getD] at h)<;>conv=>whnf)|((first|refine Obl.mk (by first|omega|rfl|exact inK_byte _|(simp only [inK,Int.toNat_natCast,etas,elDef]<;>first|omega|grind)|grind [inK]) ?_|refine OblG.mk (by ((conv=>whnf);(repeat (first|refine Bx.mk ?_|(intro h;(try simp [etas,elDef,-List.getD_eq_getElem?_getD] at h);conv=>whnf)));(first|omega|rfl|exact inK_byte _|(simp only [inK,Int.toNat_natCast,etas,elDef]<;>first|omega|grind)|grind [inK]))) ?_|refine And.intro ?_ ?_)<;>conv=>whnf)|exact True.intro|(intro;conv=>whnf)
  · exact leafB hK (eqD_no.2 (by grind))
  refine aloop_intro Nat (fun k => k ≤ a.length ∧ ∀ j, j < k → a.getD j default = b.getD j default) (fun k => a.length - k) (fun k => [(5, .int .i64 k)]) (fun _ => []) [] 0 [] [] (by simp) ?_ (by exact sgOk_of (by rfl)) ?_
  · iterate 2 ((all_goals (conv=>whnf));(repeat' (first|exact trivial|rfl|(refine nilEq ?_;first|rfl|(simp only [*];done)|(simp [*];done)|grind)|apply And.intro|((first|apply intEq|apply boolEq|apply strEq|apply psEq|apply nilEq|apply arrEq);(try simp only [Int.toNat_natCast,etas,elDef]);first | done | omega | grind | (simp only [*]; done) | (simp [*]; done)))));(all_goals ((try simp only [Int.toNat_natCast,etas,elDef]);first | done | omega | grind | (simp only [*]; done) | (simp [*]; done)))
  rintro i ⟨hi, hj⟩
  conv => whnf
  repeat' first|((first|refine Cnd.mk (fun h=>?_) (fun h=>?_)|refine Gd.mk (fun h=>?_))<;>(try simp [etas,elDef,-List.getD_eq_getElem?_getD] at h)<;>conv=>whnf)|((first|refine Obl.mk (by first|omega|rfl|exact inK_byte _|(simp only [inK,Int.toNat_natCast,etas,elDef]<;>first|omega|grind)|grind [inK]) ?_|refine OblG.mk (by ((conv=>whnf);(repeat (first|refine Bx.mk ?_|(intro h;(try simp [etas,elDef,-List.getD_eq_getElem?_getD] at h);conv=>whnf)));(first|omega|rfl|exact inK_byte _|(simp only [inK,Int.toNat_natCast,etas,elDef]<;>first|omega|grind)|grind [inK]))) ?_|refine And.intro ?_ ?_)<;>conv=>whnf)|exact True.intro|(intro;conv=>whnf)
  · exact leafB hK (eqD_no.2 (by grind [eqD_no]))
  · exact ⟨i + 1, [], [], ⟨by omega, by grind [eqD_iff]⟩, by omega, by iterate 2 ((all_goals (conv=>whnf));(repeat' (first|exact trivial|rfl|(refine nilEq ?_;first|rfl|(simp only [*];done)|(simp [*];done)|grind)|apply And.intro|((first|apply intEq|apply boolEq|apply strEq|apply psEq|apply nilEq|apply arrEq);(try simp only [Int.toNat_natCast,etas,elDef]);first | done | omega | grind | (simp only [*]; done) | (simp [*]; done)))));(all_goals ((try simp only [Int.toNat_natCast,etas,elDef]);first | done | omega | grind | (simp only [*]; done) | (simp [*]; done))), (by exact sgOk_of (by rfl))⟩
  · exact leafB hK (eqD_iff.2 (listEq default (by omega) (by grind)))
theorem s29 : (CtrOK Tryd.prog 29 (.pure F29) ∧ Callable Tryd.prog 29) := by
  refine pure_ok (E := E29) (mkE_cons s59 (mkE_nil tab_ok)) mix (O := O29) (F := F29) Tryd.func29 rfl (by rfl) (by kernel_rfl) (fun args o v h => ?_) (fun args o v h => ?_) (fun args o v h hbd hp K hK => ?_)
  · unfold F29 at h; split at h <;> cases h; first | trivial | (simp [v29, Scalar, Scalar2, Scalar1, stC, ndC, itC, chC, nwC])
  · unfold F29 at h; split at h <;> cases h; exact Nat.le_of_ble_eq_true rfl
  · unfold F29 at h; split at h
    case h_2 => cases h
    cases h
    exact a29 _ _ (by exact hbd) trivial K hK
noncomputable def v12 (a : Sto) (b : Sto) : AV := .bool (eqD a b)
noncomputable def o12 (a : Sto) (b : Sto) : Prop := True
noncomputable def F12 : List AV → QR
  | [.st [.ps .item a_0, .int .i64 a_1], .st [.ps .item b_0, .int .i64 b_1]] => some (none, v12 ⟨a_0, a_1⟩ ⟨b_0, b_1⟩)
  | _ => none
noncomputable def E12 : Ctx := mkE tab [(29, .pure F29)]
noncomputable def O12 : Nat → List DI := ordL []
theorem a12 (a : Sto) (b : Sto) (hb : BdAs [.st (stC a), .st (stC b)]) (ho : o12 a b) (K : AV → List AV → Prop) (hK : K (v12 a b) []) : abody E12 O12 .ps Tryd.f12 (Tryd.f12.body.getD .skip) [.st (stC a), .st (stC b)] K := by
  simp only [BdAs, BdA, BdL, BdC, MX, ndC, shC, itC, stC, opC, chC, nwC, flC, rqC, rsC, enc, List.cons_append, List.nil_append, and_true, true_and] at hb
  unfold v12 at hK
  conv => whnf
  repeat' first|((first|refine Cnd.mk (fun h=>?_) (fun h=>?_)|refine Gd.mk (fun h=>?_))<;>(try simp [etas,elDef,-List.getD_eq_getElem?_getD] at h)<;>conv=>whnf)|((first|refine Obl.mk (by first|omega|rfl|exact inK_byte _|(simp only [inK,Int.toNat_natCast,etas,elDef]<;>first|omega|grind)|grind [inK]) ?_|refine OblG.mk (by ((conv=>whnf);(repeat (first|refine Bx.mk ?_|(intro h;(try simp [etas,elDef,-List.getD_eq_getElem?_getD] at h);conv=>whnf)));(first|omega|rfl|exact inK_byte _|(simp only [inK,Int.toNat_natCast,etas,elDef]<;>first|omega|grind)|grind [inK]))) ?_|refine And.intro ?_ ?_)<;>conv=>whnf)|exact True.intro|(intro;conv=>whnf)
  · exact leafB hK (eqD_no.2 (by grind [eqD_no]))
  · exact leafB hK (eqD_no.2 (by grind))
  · exact leafB hK (eqD_iff.2 (sto_ext (by grind [eqD_iff]) (by grind)))
theorem s12 : (CtrOK Tryd.prog 12 (.pure F12) ∧ Callable Tryd.prog 12) := by
  refine pure_ok (E := E12) (mkE_cons s29 (mkE_nil tab_ok)) mix (O := O12) (F := F12) Tryd.func12 rfl (by rfl) (by kernel_rfl) (fun args o v h => ?_) (fun args o v h => ?_) (fun args o v h hbd hp K hK => ?_)
  · unfold F12 at h; split at h <;> cases h; first | trivial | (simp [v12, Scalar, Scalar2, Scalar1, stC, ndC, itC, chC, nwC])
  · unfold F12 at h; split at h <;> cases h; exact Nat.le_of_ble_eq_true rfl
  · unfold F12 at h; split at h
    case h_2 => cases h
    cases h
    exact a12 ⟨_, _⟩ ⟨_, _⟩ (by exact hbd) trivial K hK
end Go.Rs

