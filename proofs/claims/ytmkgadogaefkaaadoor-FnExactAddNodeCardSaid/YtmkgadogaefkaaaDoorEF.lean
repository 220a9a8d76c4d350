import Derived.Test.YtmkgadogaefkaaaDoorCK
import Derived.Test.YtmkgadogaefkaaaDoorCG
import Derived.Test.YtmkgadogaefkaaaDoorMB
import Derived.Test.YtmkgadogaefkaaaDoorMG
import Derived.Test.YtmkgadogaefkaaaDoorMH
set_option linter.all false
set_option linter.unusedSimpArgs false
set_option linter.unusedVariables false
namespace Go.Rs
open Go.Proofs
set_option maxRecDepth 100000
noncomputable def c5 (l : List Bs) (m : Int) (K : AV → List AV → Prop) : Prop :=
    Obl ((0 ≤ m ∧ m ≤ 1048576) ∧ ∀ x ∈ l, x.length ≤ 140737488355328) (∀ r : Int, szOk m r (l.length ≤ 2097152 ∧ (l.length : Int) ≤ m - r) → K (.int .i64 r) [])
noncomputable def C5 : List AV → (AV → List AV → Prop) → Prop
  | [.ps .str l, .int .i64 m], K => c5 l m K
  | _, _ => False
noncomputable def E5 : Ctx := mkE tab []
noncomputable def O5 : Nat → List DI := ordL []
theorem a5 (l : List Bs) (m : Int) (hb : BdAs [.ps .str l, .int .i64 m]) (K : AV → List AV → Prop) (h : c5 l m K) : abody E5 O5 .ps Tryd.f5 (Tryd.f5.body.getD .skip) [.ps .str l, .int .i64 m] K := by
  simp only [BdAs, BdA, BdL, BdC, MX, ndC, shC, itC, stC, opC, chC, nwC, flC, rqC, rsC, enc, List.cons_append, List.nil_append, and_true, true_and] at hb
  unfold c5 at h
  obtain ⟨⟨hm, hx⟩, hK⟩ := h
  conv => whnf
  repeat' first|(refine Cnd.mk (fun h=>?_) (fun h=>?_)<;>(try simp [etas,elDef,-List.getD_eq_getElem?_getD] at h)<;>conv=>whnf)|(refine Obl.mk (by first|omega|rfl|exact inK_byte _|(simp only [inK,Int.toNat_natCast,etas,elDef]<;>first|omega|grind)|grind [inK]) ?_<;>conv=>whnf)|(refine OblG.mk (by ((conv=>whnf);(repeat (first|(refine Bx.mk ?_)|(intro h;(try simp [etas,elDef,-List.getD_eq_getElem?_getD] at h);conv=>whnf)));(first|omega|rfl|exact inK_byte _|(simp only [inK,Int.toNat_natCast,etas,elDef]<;>first|omega|grind)|grind [inK]))) ?_<;>conv=>whnf)|(refine Gd.mk (fun h=>?_)<;>(try simp [etas,elDef,-List.getD_eq_getElem?_getD] at h)<;>conv=>whnf)|(refine And.intro ?_ ?_<;>conv=>whnf)|exact True.intro|(intro;conv=>whnf)
  · exact hK _ (.inl rfl)
  refine aloop_intro (Nat × Int) (fun ⟨i, q⟩ => i ≤ l.length ∧ 0 ≤ q ∧ q ≤ m - l.length) (fun ⟨i, q⟩ => l.length - i) (fun ⟨i, q⟩ => [(5, .int .i64 i), (1, .int .i64 q)]) (fun ⟨i, q⟩ => []) [] (0, m - l.length) [] [] ?_ ?_ (by exact sgOk_of (by rfl)) ?_
  · first | (simp; done) | (simp; assumption) | (simp only; grind)
  · iterate 2 ((all_goals (conv=>whnf));(repeat' (first|exact trivial|rfl|(refine nilEq ?_;first|rfl|(simp only [*];done)|(simp [*];done)|grind)|apply And.intro|((first|refine intEq ?_|refine boolEq ?_|refine strEq ?_|refine psEq ?_|refine nilEq ?_|refine arrEq ?_);(try simp only [Int.toNat_natCast,etas,elDef]);first | done | omega | grind | (simp only [*]; done) | (simp [*]; done)))));(all_goals ((try simp only [Int.toNat_natCast,etas,elDef]);first | done | omega | grind | (simp only [*]; done) | (simp [*]; done)))
  rintro ⟨i, q⟩ hinv
  dsimp only at hinv
  conv => whnf
  obtain ⟨hi1, hi2, hi3⟩ := hinv
  have hx2 := bdT_getD hx (i : Int).toNat
  repeat' first|(refine Cnd.mk (fun h=>?_) (fun h=>?_)<;>(try simp [etas,elDef,-List.getD_eq_getElem?_getD] at h)<;>conv=>whnf)|(refine Obl.mk (by first|omega|rfl|exact inK_byte _|(simp only [inK,Int.toNat_natCast,etas,elDef]<;>first|omega|grind)|grind [inK]) ?_<;>conv=>whnf)|(refine OblG.mk (by ((conv=>whnf);(repeat (first|(refine Bx.mk ?_)|(intro h;(try simp [etas,elDef,-List.getD_eq_getElem?_getD] at h);conv=>whnf)));(first|omega|rfl|exact inK_byte _|(simp only [inK,Int.toNat_natCast,etas,elDef]<;>first|omega|grind)|grind [inK]))) ?_<;>conv=>whnf)|(refine Gd.mk (fun h=>?_)<;>(try simp [etas,elDef,-List.getD_eq_getElem?_getD] at h)<;>conv=>whnf)|(refine And.intro ?_ ?_<;>conv=>whnf)|exact True.intro|(intro;conv=>whnf)
  · exact hK _ (.inl rfl)
  · exact ⟨(i + 1, q - (l.getD i []).length), [], [], ⟨by omega, by simp_all, by omega⟩, by simp only; omega, by iterate 2 ((all_goals (conv=>whnf));(repeat' (first|exact trivial|rfl|(refine nilEq ?_;first|rfl|(simp only [*];done)|(simp [*];done)|grind)|apply And.intro|((first|refine intEq ?_|refine boolEq ?_|refine strEq ?_|refine psEq ?_|refine nilEq ?_|refine arrEq ?_);(try simp only [Int.toNat_natCast,etas,elDef]);first | done | omega | grind | (simp only [*]; done) | (simp [*]; done)))));(all_goals ((try simp only [Int.toNat_natCast,etas,elDef]);first | done | omega | grind | (simp only [*]; done) | (simp [*]; done))), (by exact sgOk_of (by rfl))⟩
  · exact hK _ (.inr ⟨by omega, by omega, by omega, by omega⟩)
theorem s5 : (CtrOK Tryd.prog 5 (.gen .ps C5) ∧ Callable Tryd.prog 5) := by
  refine gen_ok (E := E5) (mkE_nil tab_ok) mix (O := O5) (C := C5) (own := .ps) Tryd.func5 rfl (by rfl) (by kernel_rfl) (fun args K h hbd => ?_)
  unfold C5 at h; split at h
  case h_2 => exact h.elim
  exact ⟨Nat.le_of_ble_eq_true rfl, a5 _ _ (by exact hbd) _ h⟩
noncomputable def c4 (n : Nd) (m : Int) (K : AV → List AV → Prop) : Prop :=
    Obl ((0 ≤ m ∧ m ≤ 1048576) ∧ bdN n) (∀ r : Int, szOk m r (smN n ∧ (totN n : Int) ≤ 3 + 3 * (m - r)) → K (.int .i64 r) [])
noncomputable def m4 (n : Nd) (m : Int) : Nat := SizeOf.sizeOf n
noncomputable def C4 : List AV → (AV → List AV → Prop) → Prop
  | [.st [.int .i64 n_0, .int .i64 n_1, .str n_2, .ps .str n_3, .ps .node n_4], .int .i64 m], K => c4 ⟨n_0, n_1, n_2, n_3, n_4⟩ m K
  | _, _ => False
noncomputable def Ck4 (k : Nat) : List AV → (AV → List AV → Prop) → Prop
  | [.st [.int .i64 n_0, .int .i64 n_1, .str n_2, .ps .str n_3, .ps .node n_4], .int .i64 m], K => Obl (m4 ⟨n_0, n_1, n_2, n_3, n_4⟩ m < k) (c4 ⟨n_0, n_1, n_2, n_3, n_4⟩ m K)
  | _, _ => False
noncomputable def c15 (l : List Nd) (m : Int) (K : AV → List AV → Prop) : Prop :=
    Obl ((0 ≤ m ∧ m ≤ 1048576) ∧ ∀ x ∈ l, bdN x) (∀ r : Int, szOk m r (smNs l ∧ (totNs l : Int) ≤ 3 * (m - r)) → K (.int .i64 r) [])
noncomputable def m15 (l : List Nd) (m : Int) : Nat := SizeOf.sizeOf l
noncomputable def Ck15 (k : Nat) : List AV → (AV → List AV → Prop) → Prop
  | [.ps .node l, .int .i64 m], K => Obl (m15 l m < k) (c15 l m K)
  | _, _ => False
noncomputable def E4 (k : Nat) : Ctx := mkE tab [(5, .gen .ps C5), (15, .gen .ps (Ck15 k))]
noncomputable def O4 : Nat → List DI := ordL []
theorem a4 (k : Nat) (n : Nd) (m : Int) (hm : m4 n m < k + 1) (hb : BdAs [.st (ndC n), .int .i64 m]) (K : AV → List AV → Prop) (h : c4 n m K) : abody (E4 k) O4 .ps Tryd.f4 (Tryd.f4.body.getD .skip) [.st (ndC n), .int .i64 m] K := by
  simp only [BdAs, BdA, BdL, BdC, MX, ndC, shC, itC, stC, opC, chC, nwC, flC, rqC, rsC, enc, List.cons_append, List.nil_append, and_true, true_and] at hb
  unfold c4 at h
  unfold m4 at hm
  obtain ⟨⟨hm, hx⟩, hK⟩ := h
  have h1 := kids_size n
  have h2 := hx.names
  have h3 := hx.kids
  conv => whnf
  repeat' first|(refine Cnd.mk (fun h=>?_) (fun h=>?_)<;>(try simp [etas,elDef,-List.getD_eq_getElem?_getD] at h)<;>conv=>whnf)|(refine Obl.mk (by first|omega|rfl|exact inK_byte _|(simp only [inK,Int.toNat_natCast,etas,elDef,m4,m15,m15]<;>first|omega|grind)|grind [inK,m4,m15,m15]) ?_<;>conv=>whnf)|(refine OblG.mk (by ((conv=>whnf);(repeat (first|(refine Bx.mk ?_)|(intro h;(try simp [etas,elDef,-List.getD_eq_getElem?_getD] at h);conv=>whnf)));(first|omega|rfl|exact inK_byte _|(simp only [inK,Int.toNat_natCast,etas,elDef,m4,m15,m15]<;>first|omega|grind)|grind [inK,m4,m15,m15]))) ?_<;>conv=>whnf)|(refine Gd.mk (fun h=>?_)<;>(try simp [etas,elDef,-List.getD_eq_getElem?_getD] at h)<;>conv=>whnf)|(refine And.intro ?_ ?_<;>conv=>whnf)|exact True.intro|(intro;conv=>whnf)
  · exact hK _ (.inl rfl)
  · exact hK _ (.inl rfl)
  · exact hK _ (.inl rfl)
  · rename_i r1 hr1 _ r2 hr2
    have h5 : smNs n.kids ∧ (totNs n.kids : Int) ≤ 3 * (r1 - r2) := by rcases hr2 with h | h; omega; exact h.2.2
    have h6 := h5.2
    have h7 := totN_eq n
    exact hK _ (.inr ⟨by omega, by omega, smN_of (by omega) (by omega) h5.1, by omega⟩)
noncomputable def E15 (k : Nat) : Ctx := mkE tab [(4, .gen .ps (Ck4 k))]
noncomputable def O15 : Nat → List DI := ordL []
theorem a15 (k : Nat) (l : List Nd) (m : Int) (hm : m15 l m < k + 1) (hb : BdAs [.ps .node l, .int .i64 m]) (K : AV → List AV → Prop) (h : c15 l m K) : abody (E15 k) O15 .ps Tryd.f15 (Tryd.f15.body.getD .skip) [.ps .node l, .int .i64 m] K := by
  simp only [BdAs, BdA, BdL, BdC, MX, ndC, shC, itC, stC, opC, chC, nwC, flC, rqC, rsC, enc, List.cons_append, List.nil_append, and_true, true_and] at hb
  unfold c15 at h
  unfold m15 at hm
  obtain ⟨⟨hm, hx⟩, hK⟩ := h
  have hkid : ∀ j, j < l.length → SizeOf.sizeOf (l.getD j default) < k ∧ bdN (l.getD j default) := fun j hj => ⟨by have := mem_size hj; omega, bdN_getD hx hj⟩
  conv => whnf
  repeat' first|(refine Cnd.mk (fun h=>?_) (fun h=>?_)<;>(try simp [etas,elDef,-List.getD_eq_getElem?_getD] at h)<;>conv=>whnf)|(refine Obl.mk (by first|omega|rfl|exact inK_byte _|(simp only [inK,Int.toNat_natCast,etas,elDef,m4,m15,m4]<;>first|omega|grind)|grind [inK,m4,m15,m4]) ?_<;>conv=>whnf)|(refine OblG.mk (by ((conv=>whnf);(repeat (first|(refine Bx.mk ?_)|(intro h;(try simp [etas,elDef,-List.getD_eq_getElem?_getD] at h);conv=>whnf)));(first|omega|rfl|exact inK_byte _|(simp only [inK,Int.toNat_natCast,etas,elDef,m4,m15,m4]<;>first|omega|grind)|grind [inK,m4,m15,m4]))) ?_<;>conv=>whnf)|(refine Gd.mk (fun h=>?_)<;>(try simp [etas,elDef,-List.getD_eq_getElem?_getD] at h)<;>conv=>whnf)|(refine And.intro ?_ ?_<;>conv=>whnf)|exact True.intro|(intro;conv=>whnf)
  · exact hK _ (.inl rfl)
  have hz0 : totNs (l.take 0) = 0 := rfl
  refine aloop_intro (Nat × Int) (fun ⟨i, q⟩ => i ≤ l.length ∧ 0 ≤ q ∧ q ≤ m ∧ (∀ j, j < i → smN (l.getD j default)) ∧ (totNs (l.take i) : Int) + 3 * q ≤ 3 * (m - l.length) + 3 * i) (fun ⟨i, q⟩ => l.length - i) (fun ⟨i, q⟩ => [(5, .int .i64 i), (1, .int .i64 q)]) (fun ⟨i, q⟩ => []) [] (0, m - l.length) [] [] ?_ ?_ (by exact sgOk_of (by rfl)) ?_
  · first | (simp; done) | (simp; assumption) | (simp only; grind)
  · iterate 2 ((all_goals (conv=>whnf));(repeat' (first|exact trivial|rfl|(refine nilEq ?_;first|rfl|(simp only [*];done)|(simp [*];done)|grind)|apply And.intro|((first|refine intEq ?_|refine boolEq ?_|refine strEq ?_|refine psEq ?_|refine nilEq ?_|refine arrEq ?_);(try simp only [Int.toNat_natCast,etas,elDef]);first | done | omega | grind | (simp only [*]; done) | (simp [*]; done)))));(all_goals ((try simp only [Int.toNat_natCast,etas,elDef]);first | done | omega | grind | (simp only [*]; done) | (simp [*]; done)))
  rintro ⟨i, q⟩ hinv
  dsimp only at hinv
  conv => whnf
  obtain ⟨hi1, hi2, hi3, hi4, hi5⟩ := hinv
  have htk := fun h => totNs_take (l := l) (i := i) h
  repeat' first|(refine Cnd.mk (fun h=>?_) (fun h=>?_)<;>(try simp [etas,elDef,-List.getD_eq_getElem?_getD] at h)<;>conv=>whnf)|(refine Obl.mk (by first|omega|rfl|exact inK_byte _|(simp only [inK,Int.toNat_natCast,etas,elDef,m4,m15,m4]<;>first|omega|grind)|grind [inK,m4,m15,m4]) ?_<;>conv=>whnf)|(refine OblG.mk (by ((conv=>whnf);(repeat (first|(refine Bx.mk ?_)|(intro h;(try simp [etas,elDef,-List.getD_eq_getElem?_getD] at h);conv=>whnf)));(first|omega|rfl|exact inK_byte _|(simp only [inK,Int.toNat_natCast,etas,elDef,m4,m15,m4]<;>first|omega|grind)|grind [inK,m4,m15,m4]))) ?_<;>conv=>whnf)|(refine Gd.mk (fun h=>?_)<;>(try simp [etas,elDef,-List.getD_eq_getElem?_getD] at h)<;>conv=>whnf)|(refine And.intro ?_ ?_<;>conv=>whnf)|exact True.intro|(intro;conv=>whnf)
  · exact hK _ (.inl rfl)
  · rename_i _ r hr
    have htk := htk ‹_›
    have h5 : smN (l.getD i default) ∧ (totN (l.getD i default) : Int) ≤ 3 + 3 * (q - r) := by
      rcases hr with h | h
      · omega
      · have h6 := h.2.2
        simp only [nd_eta, getD_nat] at h6
        exact h6
    have h6 := h5.2
    exact ⟨(i + 1, r), [], [], ⟨by omega, by omega, by omega, fun j hj => by rcases Nat.lt_succ_iff_lt_or_eq.1 hj with h | h; exact hi4 j h; rw [h]; exact h5.1, by rw [htk]; push_cast; omega⟩, by simp only; omega, by iterate 2 ((all_goals (conv=>whnf));(repeat' (first|exact trivial|rfl|(refine nilEq ?_;first|rfl|(simp only [*];done)|(simp [*];done)|grind)|apply And.intro|((first|refine intEq ?_|refine boolEq ?_|refine strEq ?_|refine psEq ?_|refine nilEq ?_|refine arrEq ?_);(try simp only [Int.toNat_natCast,etas,elDef]);first | done | omega | grind | (simp only [*]; done) | (simp [*]; done)))));(all_goals ((try simp only [Int.toNat_natCast,etas,elDef]);first | done | omega | grind | (simp only [*]; done) | (simp [*]; done))), (by exact sgOk_of (by rfl))⟩
  · have e1 : l.take i = l := List.take_of_length_le (by omega)
    rw [e1] at hi5
    exact hK _ (.inr ⟨by omega, by omega, smNs_of (by omega) fun j hj => hi4 j (by omega), by omega⟩)
theorem r4_15 : ∀ k, (CtrOK Tryd.prog 4 (.gen .ps (Ck4 k)) ∧ Callable Tryd.prog 4) ∧ (CtrOK Tryd.prog 15 (.gen .ps (Ck15 k)) ∧ Callable Tryd.prog 15) := by
  intro k
  induction k with
  | zero =>
    exact ⟨⟨fun args K h => by
        unfold Ck4 at h; split at h
        · exact absurd h.o (Nat.not_lt_zero _)
        · exact h.elim, callable Tryd.func4 rfl (by rfl)⟩, ⟨fun args K h => by
        unfold Ck15 at h; split at h
        · exact absurd h.o (Nat.not_lt_zero _)
        · exact h.elim, callable Tryd.func15 rfl (by rfl)⟩⟩
  | succ k ih =>
    refine ⟨?_, ?_⟩
    · refine gen_ok (E := E4 k) (mkE_cons s5 (mkE_cons ih.2 (mkE_nil tab_ok))) mix (O := O4) (C := (Ck4 (k + 1))) (own := .ps) Tryd.func4 rfl (by rfl) (by kernel_rfl) (fun args K h hbd => ?_)
      unfold Ck4 at h; split at h
      case h_2 => exact h.elim
      exact ⟨Nat.le_of_ble_eq_true rfl, a4 k ⟨_, _, _, _, _⟩ _ h.o (by exact hbd) _ h.k⟩
    · refine gen_ok (E := E15 k) (mkE_cons ih.1 (mkE_nil tab_ok)) mix (O := O15) (C := (Ck15 (k + 1))) (own := .ps) Tryd.func15 rfl (by rfl) (by kernel_rfl) (fun args K h hbd => ?_)
      unfold Ck15 at h; split at h
      case h_2 => exact h.elim
      exact ⟨Nat.le_of_ble_eq_true rfl, a15 k _ _ h.o (by exact hbd) _ h.k⟩
theorem s4 : (CtrOK Tryd.prog 4 (.gen .ps C4) ∧ Callable Tryd.prog 4) := by
  refine ⟨fun args K h => ?_, (r4_15 0).1.2⟩
  unfold C4 at h; split at h
  · exact (r4_15 (m4 ⟨_, _, _, _, _⟩ _ + 1)).1.1 _ K ⟨Nat.lt_succ_self _, h⟩
  · exact h.elim
noncomputable def c7 (n : Nd) (K : AV → List AV → Prop) : Prop :=
    Obl (smN n) (K (.st (ndC n)) [])
noncomputable def v11 (a : List Bs) (b : List Bs) : AV := .bool (eqD a b)
noncomputable def o11 (a : List Bs) (b : List Bs) : Prop := True
noncomputable def F11 : List AV → QR
  | [.ps .str a, .ps .str b] => some (none, v11 a b)
  | _ => none
noncomputable def E11 : Ctx := mkE tab []
noncomputable def O11 : Nat → List DI := ordL [(6, [.q 0, .q 1, .q 2, .q 3, .q 4, .q 5, .q 6, .q 7, .q 8])]
theorem a11 (a : List Bs) (b : List Bs) (hb : BdAs [.ps .str a, .ps .str b]) (ho : o11 a b) (K : AV → List AV → Prop) (hK : K (v11 a b) []) : abody E11 O11 .ps Tryd.f11 (Tryd.f11.body.getD .skip) [.ps .str a, .ps .str b] K := by
  simp only [BdAs, BdA, BdL, BdC, MX, ndC, shC, itC, stC, opC, chC, nwC, flC, rqC, rsC, enc, List.cons_append, List.nil_append, and_true, true_and] at hb
  unfold v11 at hK
  conv => whnf
  repeat' first|(refine Cnd.mk (fun h=>?_) (fun h=>?_)<;>(try simp [etas,elDef,-List.getD_eq_getElem?_getD] at h)<;>conv=>whnf)|(refine Obl.mk (by first|omega|rfl|exact inK_byte _|(simp only [inK,Int.toNat_natCast,etas,elDef]<;>first|omega|grind)|grind [inK]) ?_<;>conv=>whnf)|(refine OblG.mk (by ((conv=>whnf);(repeat (first|(refine Bx.mk ?_)|(intro h;(try simp [etas,elDef,-List.getD_eq_getElem?_getD] at h);conv=>whnf)));(first|omega|rfl|exact inK_byte _|(simp only [inK,Int.toNat_natCast,etas,elDef]<;>first|omega|grind)|grind [inK]))) ?_<;>conv=>whnf)|(refine Gd.mk (fun h=>?_)<;>(try simp [etas,elDef,-List.getD_eq_getElem?_getD] at h)<;>conv=>whnf)|(refine And.intro ?_ ?_<;>conv=>whnf)|exact True.intro|(intro;conv=>whnf)
  · exact leafB hK (eqD_no.2 (by grind))
  refine aloop_intro Nat (fun k => k ≤ a.length ∧ ∀ j, j < k → a.getD j [] = b.getD j []) (fun k => a.length - k) (fun k => [(5, .int .i64 k)]) (fun _ => []) [] 0 [] [] (by simp) ?_ (by exact sgOk_of (by rfl)) ?_
  · iterate 2 ((all_goals (conv=>whnf));(repeat' (first|exact trivial|rfl|(refine nilEq ?_;first|rfl|(simp only [*];done)|(simp [*];done)|grind)|apply And.intro|((first|refine intEq ?_|refine boolEq ?_|refine strEq ?_|refine psEq ?_|refine nilEq ?_|refine arrEq ?_);(try simp only [Int.toNat_natCast,etas,elDef]);first | done | omega | grind | (simp only [*]; done) | (simp [*]; done)))));(all_goals ((try simp only [Int.toNat_natCast,etas,elDef]);first | done | omega | grind | (simp only [*]; done) | (simp [*]; done)))
  rintro i ⟨hi, hj⟩
  conv => whnf
  repeat' first|(refine Cnd.mk (fun h=>?_) (fun h=>?_)<;>(try simp [etas,elDef,-List.getD_eq_getElem?_getD] at h)<;>conv=>whnf)|(refine Obl.mk (by first|omega|rfl|exact inK_byte _|(simp only [inK,Int.toNat_natCast,etas,elDef]<;>first|omega|grind)|grind [inK]) ?_<;>conv=>whnf)|(refine OblG.mk (by ((conv=>whnf);(repeat (first|(refine Bx.mk ?_)|(intro h;(try simp [etas,elDef,-List.getD_eq_getElem?_getD] at h);conv=>whnf)));(first|omega|rfl|exact inK_byte _|(simp only [inK,Int.toNat_natCast,etas,elDef]<;>first|omega|grind)|grind [inK]))) ?_<;>conv=>whnf)|(refine Gd.mk (fun h=>?_)<;>(try simp [etas,elDef,-List.getD_eq_getElem?_getD] at h)<;>conv=>whnf)|(refine And.intro ?_ ?_<;>conv=>whnf)|exact True.intro|(intro;conv=>whnf)
  · exact leafB hK (eqD_no.2 (by grind))
  · exact ⟨i + 1, [], [], ⟨by omega, by grind⟩, by omega, by iterate 2 ((all_goals (conv=>whnf));(repeat' (first|exact trivial|rfl|(refine nilEq ?_;first|rfl|(simp only [*];done)|(simp [*];done)|grind)|apply And.intro|((first|refine intEq ?_|refine boolEq ?_|refine strEq ?_|refine psEq ?_|refine nilEq ?_|refine arrEq ?_);(try simp only [Int.toNat_natCast,etas,elDef]);first | done | omega | grind | (simp only [*]; done) | (simp [*]; done)))));(all_goals ((try simp only [Int.toNat_natCast,etas,elDef]);first | done | omega | grind | (simp only [*]; done) | (simp [*]; done))), (by exact sgOk_of (by rfl))⟩
  · exact leafB hK (eqD_iff.2 (listEq [] (by omega) (by grind)))
theorem s11 : (CtrOK Tryd.prog 11 (.pure F11) ∧ Callable Tryd.prog 11) := by
  refine pure_ok (E := E11) (mkE_nil tab_ok) mix (O := O11) (F := F11) Tryd.func11 rfl (by rfl) (by kernel_rfl) (fun args o v h => ?_) (fun args o v h => ?_) (fun args o v h hbd hp K hK => ?_)
  · unfold F11 at h; split at h <;> cases h; first | trivial | (simp [v11, Scalar, Scalar2, Scalar1, stC, ndC, itC, chC, nwC])
  · unfold F11 at h; split at h <;> cases h; exact Nat.le_of_ble_eq_true rfl
  · unfold F11 at h; split at h
    case h_2 => cases h
    cases h
    exact a11 _ _ (by exact hbd) trivial K hK
noncomputable def v10 (a : Nd) (b : Nd) : AV := .bool (eqD a b)
noncomputable def o10 (a : Nd) (b : Nd) : Prop := True
noncomputable def m10 (a : Nd) (b : Nd) : Nat := SizeOf.sizeOf a
noncomputable def F10 : List AV → QR
  | [.st [.int .i64 a_0, .int .i64 a_1, .str a_2, .ps .str a_3, .ps .node a_4], .st [.int .i64 b_0, .int .i64 b_1, .str b_2, .ps .str b_3, .ps .node b_4]] => some (none, v10 ⟨a_0, a_1, a_2, a_3, a_4⟩ ⟨b_0, b_1, b_2, b_3, b_4⟩)
  | _ => none
noncomputable def Fk10 (k : Nat) : List AV → QR
  | [.st [.int .i64 a_0, .int .i64 a_1, .str a_2, .ps .str a_3, .ps .node a_4], .st [.int .i64 b_0, .int .i64 b_1, .str b_2, .ps .str b_3, .ps .node b_4]] => some (some (m10 ⟨a_0, a_1, a_2, a_3, a_4⟩ ⟨b_0, b_1, b_2, b_3, b_4⟩ < k ∧ o10 ⟨a_0, a_1, a_2, a_3, a_4⟩ ⟨b_0, b_1, b_2, b_3, b_4⟩), v10 ⟨a_0, a_1, a_2, a_3, a_4⟩ ⟨b_0, b_1, b_2, b_3, b_4⟩)
  | _ => none
noncomputable def v28 (a : List Nd) (b : List Nd) : AV := .bool (eqD a b)
noncomputable def o28 (a : List Nd) (b : List Nd) : Prop := True
noncomputable def m28 (a : List Nd) (b : List Nd) : Nat := SizeOf.sizeOf a
noncomputable def Fk28 (k : Nat) : List AV → QR
  | [.ps .node a, .ps .node b] => some (some (m28 a b < k ∧ o28 a b), v28 a b)
  | _ => none
noncomputable def E10 (k : Nat) : Ctx := mkE tab [(11, .pure F11), (28, .pure (Fk28 k))]
noncomputable def O10 : Nat → List DI := ordL []
theorem a10 (k : Nat) (a : Nd) (b : Nd) (hm : m10 a b < k + 1) (hb : BdAs [.st (ndC a), .st (ndC b)]) (ho : o10 a b) (K : AV → List AV → Prop) (hK : K (v10 a b) []) : abody (E10 k) O10 .ps Tryd.f10 (Tryd.f10.body.getD .skip) [.st (ndC a), .st (ndC b)] K := by
  simp only [BdAs, BdA, BdL, BdC, MX, ndC, shC, itC, stC, opC, chC, nwC, flC, rqC, rsC, enc, List.cons_append, List.nil_append, and_true, true_and] at hb
  unfold v10 at hK
  unfold m10 at hm
  have h1 := kids_size a
  conv => whnf
  repeat' first|(refine Cnd.mk (fun h=>?_) (fun h=>?_)<;>(try simp [etas,elDef,-List.getD_eq_getElem?_getD] at h)<;>conv=>whnf)|(refine Obl.mk (by first|omega|rfl|exact inK_byte _|(simp only [inK,Int.toNat_natCast,etas,elDef,m10,m28,o28,m28]<;>first|omega|grind)|grind [inK,m10,m28,o28,m28]) ?_<;>conv=>whnf)|(refine OblG.mk (by ((conv=>whnf);(repeat (first|(refine Bx.mk ?_)|(intro h;(try simp [etas,elDef,-List.getD_eq_getElem?_getD] at h);conv=>whnf)));(first|omega|rfl|exact inK_byte _|(simp only [inK,Int.toNat_natCast,etas,elDef,m10,m28,o28,m28]<;>first|omega|grind)|grind [inK,m10,m28,o28,m28]))) ?_<;>conv=>whnf)|(refine Gd.mk (fun h=>?_)<;>(try simp [etas,elDef,-List.getD_eq_getElem?_getD] at h)<;>conv=>whnf)|(refine And.intro ?_ ?_<;>conv=>whnf)|exact True.intro|(intro;conv=>whnf)
  · exact leafB hK (eqD_no.2 (by grind))
  · exact leafB hK (eqD_no.2 (by grind))
  · exact leafB hK (eqD_no.2 (by grind))
  · exact leafB hK (eqD_no.2 (by grind [eqD_no]))
  · exact leafB hK (eqD_no.2 (by grind [eqD_no]))
  · exact leafB hK (eqD_iff.2 (nd_ext (by grind) (by grind) (by grind) (by grind [eqD_iff]) (by grind [eqD_iff])))
noncomputable def E28 (k : Nat) : Ctx := mkE tab [(10, .pure (Fk10 k))]
noncomputable def O28 : Nat → List DI := ordL [(6, [.q 0, .q 1, .q 2, .q 3, .q 4, .q 5, .q 6, .q 7, .q 8, .q 9])]
theorem a28 (k : Nat) (a : List Nd) (b : List Nd) (hm : m28 a b < k + 1) (hb : BdAs [.ps .node a, .ps .node b]) (ho : o28 a b) (K : AV → List AV → Prop) (hK : K (v28 a b) []) : abody (E28 k) O28 .ps Tryd.f28 (Tryd.f28.body.getD .skip) [.ps .node a, .ps .node b] K := by
  simp only [BdAs, BdA, BdL, BdC, MX, ndC, shC, itC, stC, opC, chC, nwC, flC, rqC, rsC, enc, List.cons_append, List.nil_append, and_true, true_and] at hb
  unfold v28 at hK
  unfold m28 at hm
  have hkid : ∀ j, j < a.length → SizeOf.sizeOf (a.getD j default) < k := fun j hj => by have := mem_size hj; omega
  conv => whnf
  repeat' first|(refine Cnd.mk (fun h=>?_) (fun h=>?_)<;>(try simp [etas,elDef,-List.getD_eq_getElem?_getD] at h)<;>conv=>whnf)|(refine Obl.mk (by first|omega|rfl|exact inK_byte _|(simp only [inK,Int.toNat_natCast,etas,elDef,m10,m28,o10,m10]<;>first|omega|grind)|grind [inK,m10,m28,o10,m10]) ?_<;>conv=>whnf)|(refine OblG.mk (by ((conv=>whnf);(repeat (first|(refine Bx.mk ?_)|(intro h;(try simp [etas,elDef,-List.getD_eq_getElem?_getD] at h);conv=>whnf)));(first|omega|rfl|exact inK_byte _|(simp only [inK,Int.toNat_natCast,etas,elDef,m10,m28,o10,m10]<;>first|omega|grind)|grind [inK,m10,m28,o10,m10]))) ?_<;>conv=>whnf)|(refine Gd.mk (fun h=>?_)<;>(try simp [etas,elDef,-List.getD_eq_getElem?_getD] at h)<;>conv=>whnf)|(refine And.intro ?_ ?_<;>conv=>whnf)|exact True.intro|(intro;conv=>whnf)
  · exact leafB hK (eqD_no.2 (by grind))
  refine aloop_intro Nat (fun k => k ≤ a.length ∧ ∀ j, j < k → a.getD j default = b.getD j default) (fun k => a.length - k) (fun k => [(5, .int .i64 k)]) (fun _ => []) [] 0 [] [] (by simp) ?_ (by exact sgOk_of (by rfl)) ?_
  · iterate 2 ((all_goals (conv=>whnf));(repeat' (first|exact trivial|rfl|(refine nilEq ?_;first|rfl|(simp only [*];done)|(simp [*];done)|grind)|apply And.intro|((first|refine intEq ?_|refine boolEq ?_|refine strEq ?_|refine psEq ?_|refine nilEq ?_|refine arrEq ?_);(try simp only [Int.toNat_natCast,etas,elDef]);first | done | omega | grind | (simp only [*]; done) | (simp [*]; done)))));(all_goals ((try simp only [Int.toNat_natCast,etas,elDef]);first | done | omega | grind | (simp only [*]; done) | (simp [*]; done)))
  rintro i ⟨hi, hj⟩
  conv => whnf
  repeat' first|(refine Cnd.mk (fun h=>?_) (fun h=>?_)<;>(try simp [etas,elDef,-List.getD_eq_getElem?_getD] at h)<;>conv=>whnf)|(refine Obl.mk (by first|omega|rfl|exact inK_byte _|(simp only [inK,Int.toNat_natCast,etas,elDef,m10,m28,o10,m10]<;>first|omega|grind)|grind [inK,m10,m28,o10,m10]) ?_<;>conv=>whnf)|(refine OblG.mk (by ((conv=>whnf);(repeat (first|(refine Bx.mk ?_)|(intro h;(try simp [etas,elDef,-List.getD_eq_getElem?_getD] at h);conv=>whnf)));(first|omega|rfl|exact inK_byte _|(simp only [inK,Int.toNat_natCast,etas,elDef,m10,m28,o10,m10]<;>first|omega|grind)|grind [inK,m10,m28,o10,m10]))) ?_<;>conv=>whnf)|(refine Gd.mk (fun h=>?_)<;>(try simp [etas,elDef,-List.getD_eq_getElem?_getD] at h)<;>conv=>whnf)|(refine And.intro ?_ ?_<;>conv=>whnf)|exact True.intro|(intro;conv=>whnf)
  · exact leafB hK (eqD_no.2 (by grind [eqD_no]))
  · exact ⟨i + 1, [], [], ⟨by omega, by grind [eqD_iff]⟩, by omega, by iterate 2 ((all_goals (conv=>whnf));(repeat' (first|exact trivial|rfl|(refine nilEq ?_;first|rfl|(simp only [*];done)|(simp [*];done)|grind)|apply And.intro|((first|refine intEq ?_|refine boolEq ?_|refine strEq ?_|refine psEq ?_|refine nilEq ?_|refine arrEq ?_);(try simp only [Int.toNat_natCast,etas,elDef]);first | done | omega | grind | (simp only [*]; done) | (simp [*]; done)))));(all_goals ((try simp only [Int.toNat_natCast,etas,elDef]);first | done | omega | grind | (simp only [*]; done) | (simp [*]; done))), (by exact sgOk_of (by rfl))⟩
  · exact leafB hK (eqD_iff.2 (listEq default (by omega) (by grind)))
theorem r10_28 : ∀ k, (CtrOK Tryd.prog 10 (.pure (Fk10 k)) ∧ Callable Tryd.prog 10) ∧ (CtrOK Tryd.prog 28 (.pure (Fk28 k)) ∧ Callable Tryd.prog 28) := by
  intro k
  induction k with
  | zero =>
    exact ⟨⟨⟨fun args o v h => by unfold Fk10 at h; split at h <;> cases h; first | trivial | (simp [v10, Scalar, Scalar2, Scalar1, stC, ndC, itC, chC, nwC]), fun args K h => by
        unfold pureC Fk10 at h; split at h
        · rename_i h1; split at h1 <;> cases h1; exact absurd (h.1 _ rfl).1 (Nat.not_lt_zero _)
        · exact h.elim⟩, callable Tryd.func10 rfl (by rfl)⟩, ⟨⟨fun args o v h => by unfold Fk28 at h; split at h <;> cases h; first | trivial | (simp [v28, Scalar, Scalar2, Scalar1, stC, ndC, itC, chC, nwC]), fun args K h => by
        unfold pureC Fk28 at h; split at h
        · rename_i h1; split at h1 <;> cases h1; exact absurd (h.1 _ rfl).1 (Nat.not_lt_zero _)
        · exact h.elim⟩, callable Tryd.func28 rfl (by rfl)⟩⟩
  | succ k ih =>
    refine ⟨?_, ?_⟩
    · refine pure_ok (E := E10 k) (mkE_cons s11 (mkE_cons ih.2 (mkE_nil tab_ok))) mix (O := O10) (F := (Fk10 (k + 1))) Tryd.func10 rfl (by rfl) (by kernel_rfl) (fun args o v h => ?_) (fun args o v h => ?_) (fun args o v h hbd hp K hK => ?_)
      · unfold Fk10 at h; split at h <;> cases h; first | trivial | (simp [v10, Scalar, Scalar2, Scalar1, stC, ndC, itC, chC, nwC])
      · unfold Fk10 at h; split at h <;> cases h; exact Nat.le_of_ble_eq_true rfl
      · unfold Fk10 at h; split at h
        case h_2 => cases h
        cases h
        exact a10 k ⟨_, _, _, _, _⟩ ⟨_, _, _, _, _⟩ (hp _ rfl).1 (by exact hbd) (hp _ rfl).2 K hK
    · refine pure_ok (E := E28 k) (mkE_cons ih.1 (mkE_nil tab_ok)) mix (O := O28) (F := (Fk28 (k + 1))) Tryd.func28 rfl (by rfl) (by kernel_rfl) (fun args o v h => ?_) (fun args o v h => ?_) (fun args o v h hbd hp K hK => ?_)
      · unfold Fk28 at h; split at h <;> cases h; first | trivial | (simp [v28, Scalar, Scalar2, Scalar1, stC, ndC, itC, chC, nwC])
      · unfold Fk28 at h; split at h <;> cases h; exact Nat.le_of_ble_eq_true rfl
      · unfold Fk28 at h; split at h
        case h_2 => cases h
        cases h
        exact a28 k _ _ (hp _ rfl).1 (by exact hbd) (hp _ rfl).2 K hK
theorem s10 : (CtrOK Tryd.prog 10 (.pure F10) ∧ Callable Tryd.prog 10) := by
  refine ⟨⟨fun args o v h => ?_, fun args K h => ?_⟩, (r10_28 0).1.2⟩
  · unfold F10 at h; split at h <;> cases h; first | trivial | (simp [v10, Scalar, Scalar2, Scalar1, stC, ndC, itC, chC, nwC])
  · unfold pureC F10 at h; split at h
    · rename_i h1; split at h1 <;> cases h1
      exact (r10_28 (m10 ⟨_, _, _, _, _⟩ ⟨_, _, _, _, _⟩ + 1)).1.1.2 _ K ⟨fun p hp => by cases hp; exact ⟨Nat.lt_succ_self _, trivial⟩, h.2⟩
    · exact h.elim
end Go.Rs

