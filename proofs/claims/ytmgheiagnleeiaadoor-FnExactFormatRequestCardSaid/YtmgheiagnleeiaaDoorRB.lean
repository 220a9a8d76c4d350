import Derived.Test.YtmgheiagnleeiaaDoorEF
import Derived.Test.YtmgheiagnleeiaaDoorMJ
set_option linter.all false
set_option linter.unusedSimpArgs false
set_option linter.unusedVariables false
namespace Go.Rs
open Go.Proofs Go.RowKit
set_option maxRecDepth 100000
noncomputable def c29 (x : Opn) (m : Int) (K : AV → List AV → Prop) : Prop :=
    Obl ((0 ≤ m ∧ m ≤ 1048576) ∧ bdO x) (∀ r : Int, szOk m r (smO x ∧ (totO x : Int) ≤ 4 + 4 * (m - r)) → K (.int .i64 r) [])
noncomputable def C29 : List AV → (AV → List AV → Prop) → Prop
  | [.st [.int .i64 x_0, .ps .str x_1, .ps .str x_2, .int .i64 x_3_0, .int .i64 x_3_1, .str x_3_2, .ps .str x_3_3, .ps .node x_3_4], .int .i64 m], K => c29 ⟨x_0, x_1, x_2, ⟨x_3_0, x_3_1, x_3_2, x_3_3, x_3_4⟩⟩ m K
  | _, _ => False
noncomputable def E29 : Ctx := mkE tab [(9, .gen .ps C9), (10, .gen .ps C10)]
noncomputable def O29 : Nat → List DI := ordL []
theorem a29 (x : Opn) (m : Int) (hb : BdAs [.st (opC x), .int .i64 m]) (K : AV → List AV → Prop) (h : c29 x m K) : abody E29 O29 .ps Tryd.f29 (Tryd.f29.body.getD .skip) [.st (opC x), .int .i64 m] K := by
  simp only [BdAs, BdA, BdL, BdC, MX, ndC, shC, itC, stC, opC, chC, nwC, flC, rqC, rsC, enc, List.cons_append, List.nil_append, and_true, true_and] at hb
  unfold c29 at h
  obtain ⟨⟨hm, hx⟩, hK⟩ := h
  have hx1 := hx.1
  have hx2 := hx.2.1
  have hx3 := hx.2.2
  have ht : totO x = 1 + x.path.length + x.frm.length + totN x.value := rfl
  conv => whnf
  repeat' first|((first|refine Cnd.mk (fun h=>?_) (fun h=>?_)|refine Gd.mk (fun h=>?_))<;>(try simp [etas,elDef,-List.getD_eq_getElem?_getD] at h)<;>conv=>whnf)|((first|refine Obl.mk (by first|omega|rfl|exact inK_byte _|(simp only [inK,Int.toNat_natCast,etas,elDef,m10]<;>first|omega|grind)|grind [inK,m10]) ?_|refine OblG.mk (by ((conv=>whnf);(repeat (first|refine Bx.mk ?_|(intro h;(try simp [etas,elDef,-List.getD_eq_getElem?_getD] at h);conv=>whnf)));(first|omega|rfl|exact inK_byte _|(simp only [inK,Int.toNat_natCast,etas,elDef,m10]<;>first|omega|grind)|grind [inK,m10]))) ?_|refine And.intro ?_ ?_)<;>conv=>whnf)|exact True.intro|(intro;conv=>whnf)
  all_goals try exact hK _ (.inl rfl)
  · rename_i r1 hr1 h1 r2 hr2 h2 r hr
    have h5 : smN x.value ∧ (totN x.value : Int) ≤ 3 + 3 * (r2 - r) := by
      rcases hr with h | h
      · omega
      · have h6 := h.2.2
        simp only [nd_eta] at h6
        exact h6
    have h6 := h5.2
    exact hK _ (.inr ⟨by omega, by omega, ⟨by omega, by omega, h5.1⟩, by omega⟩)
theorem s29 : (CtrOK Tryd.prog 29 (.gen .ps C29) ∧ Callable Tryd.prog 29) := by
  refine gen_ok (E := E29) (mkE_cons s9 (mkE_cons s10 (mkE_nil tab_ok))) mix (O := O29) (C := C29) (own := .ps) Tryd.func29 rfl (by rfl) (by kernel_rfl) (fun args K h hbd => ?_)
  unfold C29 at h; split at h
  case h_2 => exact h.elim
  exact ⟨Nat.le_of_ble_eq_true rfl, a29 ⟨_, _, _, ⟨_, _, _, _, _⟩⟩ _ (by exact hbd) _ h⟩
noncomputable def c11 (l : List Opn) (m : Int) (K : AV → List AV → Prop) : Prop :=
    Obl ((0 ≤ m ∧ m ≤ 1048576) ∧ ∀ x ∈ l, bdO x) (∀ r : Int, szOk m r (smOs l ∧ (totOs l : Int) ≤ 5 * (m - r)) → K (.int .i64 r) [])
noncomputable def C11 : List AV → (AV → List AV → Prop) → Prop
  | [.ps .opn l, .int .i64 m], K => c11 l m K
  | _, _ => False
noncomputable def E11 : Ctx := mkE tab [(29, .gen .ps C29)]
noncomputable def O11 : Nat → List DI := ordL []
theorem a11 (l : List Opn) (m : Int) (hb : BdAs [.ps .opn l, .int .i64 m]) (K : AV → List AV → Prop) (h : c11 l m K) : abody E11 O11 .ps Tryd.f11 (Tryd.f11.body.getD .skip) [.ps .opn l, .int .i64 m] K := by
  simp only [BdAs, BdA, BdL, BdC, MX, ndC, shC, itC, stC, opC, chC, nwC, flC, rqC, rsC, enc, List.cons_append, List.nil_append, and_true, true_and] at hb
  unfold c11 at h
  obtain ⟨⟨hm, hx⟩, hK⟩ := h
  have hkid : ∀ j, j < l.length → bdO (l.getD j default) := fun j hj => by rw [getD_get hj]; exact hx _ (List.getElem_mem hj)
  conv => whnf
  repeat' first|((first|refine Cnd.mk (fun h=>?_) (fun h=>?_)|refine Gd.mk (fun h=>?_))<;>(try simp [etas,elDef,-List.getD_eq_getElem?_getD] at h)<;>conv=>whnf)|((first|refine Obl.mk (by first|omega|rfl|exact inK_byte _|(simp only [inK,Int.toNat_natCast,etas,elDef]<;>first|omega|grind)|grind [inK]) ?_|refine OblG.mk (by ((conv=>whnf);(repeat (first|refine Bx.mk ?_|(intro h;(try simp [etas,elDef,-List.getD_eq_getElem?_getD] at h);conv=>whnf)));(first|omega|rfl|exact inK_byte _|(simp only [inK,Int.toNat_natCast,etas,elDef]<;>first|omega|grind)|grind [inK]))) ?_|refine And.intro ?_ ?_)<;>conv=>whnf)|exact True.intro|(intro;conv=>whnf)
  · exact hK _ (.inl rfl)
  have hz0 : totOs (l.take 0) = 0 := rfl
  refine aloop_intro (Nat × Int) (fun ⟨i, q⟩ => i ≤ l.length ∧ 0 ≤ q ∧ q ≤ m ∧ (∀ j, j < i → smO (l.getD j default)) ∧ (totOs (l.take i) : Int) + 5 * q ≤ 5 * (m - l.length) + 5 * i) (fun ⟨i, q⟩ => l.length - i) (fun ⟨i, q⟩ => [(5, .int .i64 i), (1, .int .i64 q)]) (fun ⟨i, q⟩ => []) [] (0, m - l.length) [] [] ?_ ?_ (by exact sgOk_of (by rfl)) ?_
  · first | (simp; done) | (simp; assumption) | (simp only; grind)
  · iterate 2 ((all_goals (conv=>whnf));(repeat' (first|exact trivial|rfl|(refine nilEq ?_;first|rfl|(simp only [*];done)|(simp [*];done)|grind)|apply And.intro|((first|apply intEq|apply boolEq|apply strEq|apply psEq|apply nilEq|apply arrEq);(try simp only [Int.toNat_natCast,etas,elDef]);first | done | omega | grind | (simp only [*]; done) | (simp [*]; done)))));(all_goals ((try simp only [Int.toNat_natCast,etas,elDef]);first | done | omega | grind | (simp only [*]; done) | (simp [*]; done)))
  rintro ⟨i, q⟩ hinv
  dsimp only at hinv
  conv => whnf
  obtain ⟨hi1, hi2, hi3, hi4, hi5⟩ := hinv
  have htk := fun h => totOs_take (l := l) (i := i) h
  repeat' first|((first|refine Cnd.mk (fun h=>?_) (fun h=>?_)|refine Gd.mk (fun h=>?_))<;>(try simp [etas,elDef,-List.getD_eq_getElem?_getD] at h)<;>conv=>whnf)|((first|refine Obl.mk (by first|omega|rfl|exact inK_byte _|(simp only [inK,Int.toNat_natCast,etas,elDef]<;>first|omega|grind)|grind [inK]) ?_|refine OblG.mk (by ((conv=>whnf);(repeat (first|refine Bx.mk ?_|(intro h;(try simp [etas,elDef,-List.getD_eq_getElem?_getD] at h);conv=>whnf)));(first|omega|rfl|exact inK_byte _|(simp only [inK,Int.toNat_natCast,etas,elDef]<;>first|omega|grind)|grind [inK]))) ?_|refine And.intro ?_ ?_)<;>conv=>whnf)|exact True.intro|(intro;conv=>whnf)
  · exact hK _ (.inl rfl)
  · rename_i _ r hr
    have htk := htk ‹_›
    have h5 : smO (l.getD i default) ∧ (totO (l.getD i default) : Int) ≤ 4 + 4 * (q - r) := by
      rcases hr with h | h
      · omega
      · have h6 := h.2.2
        simp only [nd_eta, getD_nat] at h6
        exact h6
    have h6 := h5.2
    exact ⟨(i + 1, r), [], [], ⟨by omega, by omega, by omega, fun j hj => by rcases Nat.lt_succ_iff_lt_or_eq.1 hj with h | h; exact hi4 j h; rw [h]; exact h5.1, by rw [htk]; push_cast; omega⟩, by simp only; omega, by iterate 2 ((all_goals (conv=>whnf));(repeat' (first|exact trivial|rfl|(refine nilEq ?_;first|rfl|(simp only [*];done)|(simp [*];done)|grind)|apply And.intro|((first|apply intEq|apply boolEq|apply strEq|apply psEq|apply nilEq|apply arrEq);(try simp only [Int.toNat_natCast,etas,elDef]);first | done | omega | grind | (simp only [*]; done) | (simp [*]; done)))));(all_goals ((try simp only [Int.toNat_natCast,etas,elDef]);first | done | omega | grind | (simp only [*]; done) | (simp [*]; done))), (by exact sgOk_of (by rfl))⟩
  · have e1 : l.take i = l := List.take_of_length_le (by omega)
    rw [e1] at hi5
    exact hK _ (.inr ⟨by omega, by omega, smOs_of (by omega) fun j hj => hi4 j (by omega), by omega⟩)
theorem s11 : (CtrOK Tryd.prog 11 (.gen .ps C11) ∧ Callable Tryd.prog 11) := by
  refine gen_ok (E := E11) (mkE_cons s29 (mkE_nil tab_ok)) mix (O := O11) (C := C11) (own := .ps) Tryd.func11 rfl (by rfl) (by kernel_rfl) (fun args K h hbd => ?_)
  unfold C11 at h; split at h
  case h_2 => exact h.elim
  exact ⟨Nat.le_of_ble_eq_true rfl, a11 _ _ (by exact hbd) _ h⟩
noncomputable def c4 (x : Req) (m : Int) (K : AV → List AV → Prop) : Prop :=
    Obl ((0 ≤ m ∧ m ≤ 1048576) ∧ bdR x) (∀ r : Int, szOk m r (smR x ∧ (totR x : Int) ≤ 5 + 5 * (m - r)) → K (.int .i64 r) [])
noncomputable def C4 : List AV → (AV → List AV → Prop) → Prop
  | [.st [.int .i64 x_0, .str x_1, .ps .str x_2, .ps .str x_3, .int .i64 x_4_0, .int .i64 x_4_1, .str x_4_2, .ps .str x_4_3, .ps .node x_4_4, .ps .opn x_5], .int .i64 m], K => c4 ⟨x_0, x_1, x_2, x_3, ⟨x_4_0, x_4_1, x_4_2, x_4_3, x_4_4⟩, x_5⟩ m K
  | _, _ => False
noncomputable def E4 : Ctx := mkE tab [(9, .gen .ps C9), (10, .gen .ps C10), (11, .gen .ps C11)]
noncomputable def O4 : Nat → List DI := ordL []
theorem a4 (x : Req) (m : Int) (hb : BdAs [.st (rqC x), .int .i64 m]) (K : AV → List AV → Prop) (h : c4 x m K) : abody E4 O4 .ps Tryd.f4 (Tryd.f4.body.getD .skip) [.st (rqC x), .int .i64 m] K := by
  simp only [BdAs, BdA, BdL, BdC, MX, ndC, shC, itC, stC, opC, chC, nwC, flC, rqC, rsC, enc, List.cons_append, List.nil_append, and_true, true_and] at hb
  unfold c4 at h
  obtain ⟨⟨hm, hx⟩, hK⟩ := h
  have hx1 := hx.1
  have hx2 := hx.2.1
  have hx3 := hx.2.2.1
  have hx4 := hx.2.2.2
  have ht : totR x = 2 + x.want.length + x.avoid.length + totN x.body + totOs x.ops := rfl
  conv => whnf
  repeat' first|((first|refine Cnd.mk (fun h=>?_) (fun h=>?_)|refine Gd.mk (fun h=>?_))<;>(try simp [etas,elDef,-List.getD_eq_getElem?_getD] at h)<;>conv=>whnf)|((first|refine Obl.mk (by first|omega|rfl|exact inK_byte _|(simp only [inK,Int.toNat_natCast,etas,elDef,m10]<;>first|omega|grind)|grind [inK,m10]) ?_|refine OblG.mk (by ((conv=>whnf);(repeat (first|refine Bx.mk ?_|(intro h;(try simp [etas,elDef,-List.getD_eq_getElem?_getD] at h);conv=>whnf)));(first|omega|rfl|exact inK_byte _|(simp only [inK,Int.toNat_natCast,etas,elDef,m10]<;>first|omega|grind)|grind [inK,m10]))) ?_|refine And.intro ?_ ?_)<;>conv=>whnf)|exact True.intro|(intro;conv=>whnf)
  all_goals try exact hK _ (.inl rfl)
  · rename_i r1 hr1 h1 r2 hr2 h2 r3 hr3 h3 r hr
    have h5 : smN x.body ∧ (totN x.body : Int) ≤ 3 + 3 * (r2 - r3) := by
      rcases hr3 with h | h
      · omega
      · have h6 := h.2.2
        simp only [nd_eta] at h6
        exact h6
    have h7 : smOs x.ops ∧ (totOs x.ops : Int) ≤ 5 * (r3 - r) := by
      rcases hr with h | h
      · omega
      · exact h.2.2
    have h6 := h5.2
    have h8 := h7.2
    exact hK _ (.inr ⟨by omega, by omega, ⟨by omega, by omega, h5.1, h7.1⟩, by omega⟩)
theorem s4 : (CtrOK Tryd.prog 4 (.gen .ps C4) ∧ Callable Tryd.prog 4) := by
  refine gen_ok (E := E4) (mkE_cons s9 (mkE_cons s10 (mkE_cons s11 (mkE_nil tab_ok)))) mix (O := O4) (C := C4) (own := .ps) Tryd.func4 rfl (by rfl) (by kernel_rfl) (fun args K h hbd => ?_)
  unfold C4 at h; split at h
  case h_2 => exact h.elim
  exact ⟨Nat.le_of_ble_eq_true rfl, a4 ⟨_, _, _, _, ⟨_, _, _, _, _⟩, _⟩ _ (by exact hbd) _ h⟩
noncomputable def v57 (a : Opn) (b : Opn) : AV := .bool (eqD a b)
noncomputable def o57 (a : Opn) (b : Opn) : Prop := True
noncomputable def F57 : List AV → QR
  | [.st [.int .i64 a_0, .ps .str a_1, .ps .str a_2, .int .i64 a_3_0, .int .i64 a_3_1, .str a_3_2, .ps .str a_3_3, .ps .node a_3_4], .st [.int .i64 b_0, .ps .str b_1, .ps .str b_2, .int .i64 b_3_0, .int .i64 b_3_1, .str b_3_2, .ps .str b_3_3, .ps .node b_3_4]] => some (none, v57 ⟨a_0, a_1, a_2, ⟨a_3_0, a_3_1, a_3_2, a_3_3, a_3_4⟩⟩ ⟨b_0, b_1, b_2, ⟨b_3_0, b_3_1, b_3_2, b_3_3, b_3_4⟩⟩)
  | _ => none
noncomputable def E57 : Ctx := mkE tab [(25, .pure F25), (26, .pure F26)]
noncomputable def O57 : Nat → List DI := ordL []
theorem a57 (a : Opn) (b : Opn) (hb : BdAs [.st (opC a), .st (opC b)]) (ho : o57 a b) (K : AV → List AV → Prop) (hK : K (v57 a b) []) : abody E57 O57 .ps Tryd.f57 (Tryd.f57.body.getD .skip) [.st (opC a), .st (opC b)] K := by
  simp only [BdAs, BdA, BdL, BdC, MX, ndC, shC, itC, stC, opC, chC, nwC, flC, rqC, rsC, enc, List.cons_append, List.nil_append, and_true, true_and] at hb
  unfold v57 at hK
  conv => whnf
  repeat' first|((first|refine Cnd.mk (fun h=>?_) (fun h=>?_)|refine Gd.mk (fun h=>?_))<;>(try simp [etas,elDef,-List.getD_eq_getElem?_getD] at h)<;>conv=>whnf)|((first|refine Obl.mk (by first|omega|rfl|exact inK_byte _|(simp only [inK,Int.toNat_natCast,etas,elDef,o26,m26]<;>first|omega|grind)|grind [inK,o26,m26]) ?_|refine OblG.mk (by ((conv=>whnf);(repeat (first|refine Bx.mk ?_|(intro h;(try simp [etas,elDef,-List.getD_eq_getElem?_getD] at h);conv=>whnf)));(first|omega|rfl|exact inK_byte _|(simp only [inK,Int.toNat_natCast,etas,elDef,o26,m26]<;>first|omega|grind)|grind [inK,o26,m26]))) ?_|refine And.intro ?_ ?_)<;>conv=>whnf)|exact True.intro|(intro;conv=>whnf)
  · exact leafB hK (eqD_no.2 (by grind))
  · exact leafB hK (eqD_no.2 (by grind [eqD_no]))
  · exact leafB hK (eqD_no.2 (by grind [eqD_no]))
  · exact leafB hK (eqD_no.2 (by grind [eqD_no]))
  · exact leafB hK (eqD_iff.2 (opn_ext (by grind) (by grind [eqD_iff]) (by grind [eqD_iff]) (by grind [eqD_iff])))
theorem s57 : (CtrOK Tryd.prog 57 (.pure F57) ∧ Callable Tryd.prog 57) := by
  refine pure_ok (E := E57) (mkE_cons s25 (mkE_cons s26 (mkE_nil tab_ok))) mix (O := O57) (F := F57) Tryd.func57 rfl (by rfl) (by kernel_rfl) (fun args o v h => ?_) (fun args o v h => ?_) (fun args o v h hbd hp K hK => ?_)
  · unfold F57 at h; split at h <;> cases h; first | trivial | (simp [v57, Scalar, Scalar2, Scalar1, stC, ndC, itC, chC, nwC])
  · unfold F57 at h; split at h <;> cases h; exact Nat.le_of_ble_eq_true rfl
  · unfold F57 at h; split at h
    case h_2 => cases h
    cases h
    exact a57 ⟨_, _, _, ⟨_, _, _, _, _⟩⟩ ⟨_, _, _, ⟨_, _, _, _, _⟩⟩ (by exact hbd) trivial K hK
noncomputable def v27 (a : List Opn) (b : List Opn) : AV := .bool (eqD a b)
noncomputable def o27 (a : List Opn) (b : List Opn) : Prop := True
noncomputable def F27 : List AV → QR
  | [.ps .opn a, .ps .opn b] => some (none, v27 a b)
  | _ => none
noncomputable def E27 : Ctx := mkE tab [(57, .pure F57)]
noncomputable def O27 : Nat → List DI := ordL [(6, [.q 0, .q 1, .q 2, .q 3, .q 4, .q 5, .q 6, .q 7, .q 8, .q 9])]
theorem a27 (a : List Opn) (b : List Opn) (hb : BdAs [.ps .opn a, .ps .opn b]) (ho : o27 a b) (K : AV → List AV → Prop) (hK : K (v27 a b) []) : abody E27 O27 .ps Tryd.f27 (Tryd.f27.body.getD .skip) [.ps .opn a, .ps .opn b] K := by
  simp only [BdAs, BdA, BdL, BdC, MX, ndC, shC, itC, stC, opC, chC, nwC, flC, rqC, rsC, enc, List.cons_append, List.nil_append, and_true, true_and] at hb
  unfold v27 at hK
  conv => whnf
  repeat' first|((first|refine Cnd.mk (fun h=>?_) (fun h=>?_)|refine Gd.mk (fun h=>?_))<;>(try simp [etas,elDef,-List.getD_eq_getElem?_getD] at h)<;>conv=>whnf)|((first|refine Obl.mk (by first|omega|rfl|exact inK_byte _|(simp only [inK,Int.toNat_natCast,etas,elDef]<;>first|omega|grind)|grind [inK]) ?_|refine OblG.mk (by ((conv=>whnf);(repeat (first|refine Bx.mk ?_|(intro h;(try simp [etas,elDef,-List.getD_eq_getElem?_getD] at h);conv=>whnf)));(first|omega|rfl|exact inK_byte _|(simp only [inK,Int.toNat_natCast,etas,elDef]<;>first|omega|grind)|grind [inK]))) ?_|refine And.intro ?_ ?_)<;>conv=>whnf)|exact True.intro|(intro;conv=>whnf)
  · exact leafB hK (eqD_no.2 (by grind))
  refine aloop_intro Nat (fun k => k ≤ a.length ∧ ∀ j, j < k → a.getD j default = b.getD j default) (fun k => a.length - k) (fun k => [(5, .int .i64 k)]) (fun _ => []) [] 0 [] [] (by simp) ?_ (by exact sgOk_of (by rfl)) ?_
  · iterate 2 ((all_goals (conv=>whnf));(repeat' (first|exact trivial|rfl|(refine nilEq ?_;first|rfl|(simp only [*];done)|(simp [*];done)|grind)|apply And.intro|((first|apply intEq|apply boolEq|apply strEq|apply psEq|apply nilEq|apply arrEq);(try simp only [Int.toNat_natCast,etas,elDef]);first | done | omega | grind | (simp only [*]; done) | (simp [*]; done)))));(all_goals ((try simp only [Int.toNat_natCast,etas,elDef]);first | done | omega | grind | (simp only [*]; done) | (simp [*]; done)))
  rintro i ⟨hi, hj⟩
  conv => whnf
  repeat' first|((first|refine Cnd.mk (fun h=>?_) (fun h=>?_)|refine Gd.mk (fun h=>?_))<;>(try simp [etas,elDef,-List.getD_eq_getElem?_getD] at h)<;>conv=>whnf)|((first|refine Obl.mk (by first|omega|rfl|exact inK_byte _|(simp only [inK,Int.toNat_natCast,etas,elDef]<;>first|omega|grind)|grind [inK]) ?_|refine OblG.mk (by ((conv=>whnf);(repeat (first|refine Bx.mk ?_|(intro h;(try simp [etas,elDef,-List.getD_eq_getElem?_getD] at h);conv=>whnf)));(first|omega|rfl|exact inK_byte _|(simp only [inK,Int.toNat_natCast,etas,elDef]<;>first|omega|grind)|grind [inK]))) ?_|refine And.intro ?_ ?_)<;>conv=>whnf)|exact True.intro|(intro;conv=>whnf)
  · exact leafB hK (eqD_no.2 (by grind [eqD_no]))
  · exact ⟨i + 1, [], [], ⟨by omega, by grind [eqD_iff]⟩, by omega, by iterate 2 ((all_goals (conv=>whnf));(repeat' (first|exact trivial|rfl|(refine nilEq ?_;first|rfl|(simp only [*];done)|(simp [*];done)|grind)|apply And.intro|((first|apply intEq|apply boolEq|apply strEq|apply psEq|apply nilEq|apply arrEq);(try simp only [Int.toNat_natCast,etas,elDef]);first | done | omega | grind | (simp only [*]; done) | (simp [*]; done)))));(all_goals ((try simp only [Int.toNat_natCast,etas,elDef]);first | done | omega | grind | (simp only [*]; done) | (simp [*]; done))), (by exact sgOk_of (by rfl))⟩
  · exact leafB hK (eqD_iff.2 (listEq default (by omega) (by grind)))
theorem s27 : (CtrOK Tryd.prog 27 (.pure F27) ∧ Callable Tryd.prog 27) := by
  refine pure_ok (E := E27) (mkE_cons s57 (mkE_nil tab_ok)) mix (O := O27) (F := F27) Tryd.func27 rfl (by rfl) (by kernel_rfl) (fun args o v h => ?_) (fun args o v h => ?_) (fun args o v h hbd hp K hK => ?_)
  · unfold F27 at h; split at h <;> cases h; first | trivial | (simp [v27, Scalar, Scalar2, Scalar1, stC, ndC, itC, chC, nwC])
  · unfold F27 at h; split at h <;> cases h; exact Nat.le_of_ble_eq_true rfl
  · unfold F27 at h; split at h
    case h_2 => cases h
    cases h
    exact a27 _ _ (by exact hbd) trivial K hK
noncomputable def v8 (a : Req) (b : Req) : AV := .bool (eqD a b)
noncomputable def o8 (a : Req) (b : Req) : Prop := True
noncomputable def F8 : List AV → QR
  | [.st [.int .i64 a_0, .str a_1, .ps .str a_2, .ps .str a_3, .int .i64 a_4_0, .int .i64 a_4_1, .str a_4_2, .ps .str a_4_3, .ps .node a_4_4, .ps .opn a_5], .st [.int .i64 b_0, .str b_1, .ps .str b_2, .ps .str b_3, .int .i64 b_4_0, .int .i64 b_4_1, .str b_4_2, .ps .str b_4_3, .ps .node b_4_4, .ps .opn b_5]] => some (none, v8 ⟨a_0, a_1, a_2, a_3, ⟨a_4_0, a_4_1, a_4_2, a_4_3, a_4_4⟩, a_5⟩ ⟨b_0, b_1, b_2, b_3, ⟨b_4_0, b_4_1, b_4_2, b_4_3, b_4_4⟩, b_5⟩)
  | _ => none
noncomputable def E8 : Ctx := mkE tab [(25, .pure F25), (26, .pure F26), (27, .pure F27)]
noncomputable def O8 : Nat → List DI := ordL []
theorem a8 (a : Req) (b : Req) (hb : BdAs [.st (rqC a), .st (rqC b)]) (ho : o8 a b) (K : AV → List AV → Prop) (hK : K (v8 a b) []) : abody E8 O8 .ps Tryd.f8 (Tryd.f8.body.getD .skip) [.st (rqC a), .st (rqC b)] K := by
  simp only [BdAs, BdA, BdL, BdC, MX, ndC, shC, itC, stC, opC, chC, nwC, flC, rqC, rsC, enc, List.cons_append, List.nil_append, and_true, true_and] at hb
  unfold v8 at hK
  conv => whnf
  repeat' first|((first|refine Cnd.mk (fun h=>?_) (fun h=>?_)|refine Gd.mk (fun h=>?_))<;>(try simp [etas,elDef,-List.getD_eq_getElem?_getD] at h)<;>conv=>whnf)|((first|refine Obl.mk (by first|omega|rfl|exact inK_byte _|(simp only [inK,Int.toNat_natCast,etas,elDef,o26,m26]<;>first|omega|grind)|grind [inK,o26,m26]) ?_|refine OblG.mk (by ((conv=>whnf);(repeat (first|refine Bx.mk ?_|(intro h;(try simp [etas,elDef,-List.getD_eq_getElem?_getD] at h);conv=>whnf)));(first|omega|rfl|exact inK_byte _|(simp only [inK,Int.toNat_natCast,etas,elDef,o26,m26]<;>first|omega|grind)|grind [inK,o26,m26]))) ?_|refine And.intro ?_ ?_)<;>conv=>whnf)|exact True.intro|(intro;conv=>whnf)
  · exact leafB hK (eqD_no.2 (by grind))
  · exact leafB hK (eqD_no.2 (by grind))
  · exact leafB hK (eqD_no.2 (by grind [eqD_no]))
  · exact leafB hK (eqD_no.2 (by grind [eqD_no]))
  · exact leafB hK (eqD_no.2 (by grind [eqD_no]))
  · exact leafB hK (eqD_no.2 (by grind [eqD_no]))
  · exact leafB hK (eqD_iff.2 (req_ext (by grind) (by grind) (by grind [eqD_iff]) (by grind [eqD_iff]) (by grind [eqD_iff]) (by grind [eqD_iff])))
theorem s8 : (CtrOK Tryd.prog 8 (.pure F8) ∧ Callable Tryd.prog 8) := by
  refine pure_ok (E := E8) (mkE_cons s25 (mkE_cons s26 (mkE_cons s27 (mkE_nil tab_ok)))) mix (O := O8) (F := F8) Tryd.func8 rfl (by rfl) (by kernel_rfl) (fun args o v h => ?_) (fun args o v h => ?_) (fun args o v h hbd hp K hK => ?_)
  · unfold F8 at h; split at h <;> cases h; first | trivial | (simp [v8, Scalar, Scalar2, Scalar1, stC, ndC, itC, chC, nwC])
  · unfold F8 at h; split at h <;> cases h; exact Nat.le_of_ble_eq_true rfl
  · unfold F8 at h; split at h
    case h_2 => cases h
    cases h
    exact a8 ⟨_, _, _, _, ⟨_, _, _, _, _⟩, _⟩ ⟨_, _, _, _, ⟨_, _, _, _, _⟩, _⟩ (by exact hbd) trivial K hK
noncomputable def c44 (x : Opn) (K : AV → List AV → Prop) : Prop :=
    Obl (smO x) (K (.st (opC x)) [])
noncomputable def C44 : List AV → (AV → List AV → Prop) → Prop
  | [.st [.int .i64 x_0, .ps .str x_1, .ps .str x_2, .int .i64 x_3_0, .int .i64 x_3_1, .str x_3_2, .ps .str x_3_3, .ps .node x_3_4]], K => c44 ⟨x_0, x_1, x_2, ⟨x_3_0, x_3_1, x_3_2, x_3_3, x_3_4⟩⟩ K
  | _, _ => False
noncomputable def E44 : Ctx := mkE tab [(16, .gen .ps C16), (17, .gen .ps C17)]
noncomputable def O44 : Nat → List DI := ordL []
theorem a44 (x : Opn) (hb : BdAs [.st (opC x)]) (K : AV → List AV → Prop) (h : c44 x K) : abody E44 O44 .ps Tryd.f44 (Tryd.f44.body.getD .skip) [.st (opC x)] K := by
  simp only [BdAs, BdA, BdL, BdC, MX, ndC, shC, itC, stC, opC, chC, nwC, flC, rqC, rsC, enc, List.cons_append, List.nil_append, and_true, true_and] at hb
  unfold c44 at h
  obtain ⟨hs, hK⟩ := h
  have hs1 := hs.1
  have hs2 := hs.2.1
  have hs3 := hs.2.2
  conv => whnf
  repeat' first|((first|refine Cnd.mk (fun h=>?_) (fun h=>?_)|refine Gd.mk (fun h=>?_))<;>(try simp [etas,elDef,-List.getD_eq_getElem?_getD] at h)<;>conv=>whnf)|((first|refine Obl.mk (by first|omega|rfl|exact inK_byte _|(simp only [inK,Int.toNat_natCast,etas,elDef,m17]<;>first|omega|grind)|grind [inK,m17]) ?_|refine OblG.mk (by ((conv=>whnf);(repeat (first|refine Bx.mk ?_|(intro h;(try simp [etas,elDef,-List.getD_eq_getElem?_getD] at h);conv=>whnf)));(first|omega|rfl|exact inK_byte _|(simp only [inK,Int.toNat_natCast,etas,elDef,m17]<;>first|omega|grind)|grind [inK,m17]))) ?_|refine And.intro ?_ ?_)<;>conv=>whnf)|exact True.intro|(intro;conv=>whnf)
  all_goals exact leafV hK rfl
theorem s44 : (CtrOK Tryd.prog 44 (.gen .ps C44) ∧ Callable Tryd.prog 44) := by
  refine gen_ok (E := E44) (mkE_cons s16 (mkE_cons s17 (mkE_nil tab_ok))) mix (O := O44) (C := C44) (own := .ps) Tryd.func44 rfl (by rfl) (by kernel_rfl) (fun args K h hbd => ?_)
  unfold C44 at h; split at h
  case h_2 => exact h.elim
  exact ⟨Nat.le_of_ble_eq_true rfl, a44 ⟨_, _, _, ⟨_, _, _, _, _⟩⟩ (by exact hbd) _ h⟩
noncomputable def c18 (l : List Opn) (K : AV → List AV → Prop) : Prop :=
    Obl (smOs l) (K (.ps .opn l) [])
noncomputable def C18 : List AV → (AV → List AV → Prop) → Prop
  | [.ps .opn l], K => c18 l K
  | _, _ => False
noncomputable def E18 : Ctx := mkE tab [(44, .gen .ps C44)]
noncomputable def O18 : Nat → List DI := ordL []
theorem a18 (l : List Opn) (hb : BdAs [.ps .opn l]) (K : AV → List AV → Prop) (h : c18 l K) : abody E18 O18 .ps Tryd.f18 (Tryd.f18.body.getD .skip) [.ps .opn l] K := by
  simp only [BdAs, BdA, BdL, BdC, MX, ndC, shC, itC, stC, opC, chC, nwC, flC, rqC, rsC, enc, List.cons_append, List.nil_append, and_true, true_and] at hb
  unfold c18 at h
  obtain ⟨hs, hK⟩ := h
  have hkid : ∀ j, j < l.length → smO (l.getD j default) := fun j hj => hs.kid hj
  have h3 := hs.1
  conv => whnf
  repeat' first|((first|refine Cnd.mk (fun h=>?_) (fun h=>?_)|refine Gd.mk (fun h=>?_))<;>(try simp [etas,elDef,-List.getD_eq_getElem?_getD] at h)<;>conv=>whnf)|((first|refine Obl.mk (by first|omega|rfl|exact inK_byte _|(simp only [inK,Int.toNat_natCast,etas,elDef]<;>first|omega|grind)|grind [inK]) ?_|refine OblG.mk (by ((conv=>whnf);(repeat (first|refine Bx.mk ?_|(intro h;(try simp [etas,elDef,-List.getD_eq_getElem?_getD] at h);conv=>whnf)));(first|omega|rfl|exact inK_byte _|(simp only [inK,Int.toNat_natCast,etas,elDef]<;>first|omega|grind)|grind [inK]))) ?_|refine And.intro ?_ ?_)<;>conv=>whnf)|exact True.intro|(intro;conv=>whnf)
  refine aloop_intro Nat (fun k => k ≤ l.length ∧ True) (fun k => l.length - k) (fun k => [(4, .int .i64 k)]) (fun k => [(7, .arr .opn (fillD default l k))]) [] 0 [] [] ?_ ?_ (by exact sgOk_of (by rfl)) ?_
  · first | (simp; done) | (simp; assumption)
  · iterate 2 ((all_goals (conv=>whnf));(repeat' (first|exact trivial|rfl|(refine nilEq ?_;first|rfl|(simp only [*];done)|(simp [*];done)|grind)|apply And.intro|((first|apply intEq|apply boolEq|apply strEq|apply psEq|apply nilEq|apply arrEq);(try simp only [Int.toNat_natCast,etas,elDef]);first | done | omega | grind | (simp only [*]; done) | (simp [*]; done)))));(all_goals ((try simp only [Int.toNat_natCast,etas,elDef]);first | done | omega | grind | (simp only [*]; done) | (simp [*]; done)))
  rintro i ⟨hi, hj⟩
  conv => whnf
  have hl := fillD_len default l hi
  have hset := fun h => fillD_set default l (k := i) h
  repeat' first|((first|refine Cnd.mk (fun h=>?_) (fun h=>?_)|refine Gd.mk (fun h=>?_))<;>(try simp [etas,elDef,-List.getD_eq_getElem?_getD] at h)<;>conv=>whnf)|((first|refine Obl.mk (by first|omega|rfl|exact inK_byte _|(simp only [inK,Int.toNat_natCast,etas,elDef]<;>first|omega|grind)|grind [inK]) ?_|refine OblG.mk (by ((conv=>whnf);(repeat (first|refine Bx.mk ?_|(intro h;(try simp [etas,elDef,-List.getD_eq_getElem?_getD] at h);conv=>whnf)));(first|omega|rfl|exact inK_byte _|(simp only [inK,Int.toNat_natCast,etas,elDef]<;>first|omega|grind)|grind [inK]))) ?_|refine And.intro ?_ ?_)<;>conv=>whnf)|exact True.intro|(intro;conv=>whnf)
  · exact ⟨i + 1, [], [], ⟨by omega, by grind⟩, by omega, by iterate 2 ((all_goals (conv=>whnf));(repeat' (first|exact trivial|rfl|(refine nilEq ?_;first|rfl|(simp only [*];done)|(simp [*];done)|grind)|apply And.intro|((first|apply intEq|apply boolEq|apply strEq|apply psEq|apply nilEq|apply arrEq);(try simp only [Int.toNat_natCast,etas,elDef]);first | done | omega | grind | (simp only [*]; done) | (simp [*]; done)))));(all_goals ((try simp only [Int.toNat_natCast,etas,elDef]);first | done | omega | grind | (simp only [*]; done) | (simp [*]; done))), (by exact sgOk_of (by rfl))⟩
  · exact leafV hK (by simp_all [fillD_all default l ‹l.length ≤ i›])
theorem s18 : (CtrOK Tryd.prog 18 (.gen .ps C18) ∧ Callable Tryd.prog 18) := by
  refine gen_ok (E := E18) (mkE_cons s44 (mkE_nil tab_ok)) mix (O := O18) (C := C18) (own := .ps) Tryd.func18 rfl (by rfl) (by kernel_rfl) (fun args K h hbd => ?_)
  unfold C18 at h; split at h
  case h_2 => exact h.elim
  exact ⟨Nat.le_of_ble_eq_true rfl, a18 _ (by exact hbd) _ h⟩
noncomputable def c6 (x : Req) (K : AV → List AV → Prop) : Prop :=
    Obl (smR x) (K (.st (rqC x)) [])
noncomputable def C6 : List AV → (AV → List AV → Prop) → Prop
  | [.st [.int .i64 x_0, .str x_1, .ps .str x_2, .ps .str x_3, .int .i64 x_4_0, .int .i64 x_4_1, .str x_4_2, .ps .str x_4_3, .ps .node x_4_4, .ps .opn x_5]], K => c6 ⟨x_0, x_1, x_2, x_3, ⟨x_4_0, x_4_1, x_4_2, x_4_3, x_4_4⟩, x_5⟩ K
  | _, _ => False
noncomputable def E6 : Ctx := mkE tab [(16, .gen .ps C16), (17, .gen .ps C17), (18, .gen .ps C18)]
noncomputable def O6 : Nat → List DI := ordL []
theorem a6 (x : Req) (hb : BdAs [.st (rqC x)]) (K : AV → List AV → Prop) (h : c6 x K) : abody E6 O6 .ps Tryd.f6 (Tryd.f6.body.getD .skip) [.st (rqC x)] K := by
  simp only [BdAs, BdA, BdL, BdC, MX, ndC, shC, itC, stC, opC, chC, nwC, flC, rqC, rsC, enc, List.cons_append, List.nil_append, and_true, true_and] at hb
  unfold c6 at h
  obtain ⟨hs, hK⟩ := h
  have hs1 := hs.1
  have hs2 := hs.2.1
  have hs3 := hs.2.2.1
  have hs4 := hs.2.2.2
  conv => whnf
  repeat' first|((first|refine Cnd.mk (fun h=>?_) (fun h=>?_)|refine Gd.mk (fun h=>?_))<;>(try simp [etas,elDef,-List.getD_eq_getElem?_getD] at h)<;>conv=>whnf)|((first|refine Obl.mk (by first|omega|rfl|exact inK_byte _|(simp only [inK,Int.toNat_natCast,etas,elDef,m17]<;>first|omega|grind)|grind [inK,m17]) ?_|refine OblG.mk (by ((conv=>whnf);(repeat (first|refine Bx.mk ?_|(intro h;(try simp [etas,elDef,-List.getD_eq_getElem?_getD] at h);conv=>whnf)));(first|omega|rfl|exact inK_byte _|(simp only [inK,Int.toNat_natCast,etas,elDef,m17]<;>first|omega|grind)|grind [inK,m17]))) ?_|refine And.intro ?_ ?_)<;>conv=>whnf)|exact True.intro|(intro;conv=>whnf)
  all_goals exact leafV hK rfl
theorem s6 : (CtrOK Tryd.prog 6 (.gen .ps C6) ∧ Callable Tryd.prog 6) := by
  refine gen_ok (E := E6) (mkE_cons s16 (mkE_cons s17 (mkE_cons s18 (mkE_nil tab_ok)))) mix (O := O6) (C := C6) (own := .ps) Tryd.func6 rfl (by rfl) (by kernel_rfl) (fun args K h hbd => ?_)
  unfold C6 at h; split at h
  case h_2 => exact h.elim
  exact ⟨Nat.le_of_ble_eq_true rfl, a6 ⟨_, _, _, _, ⟨_, _, _, _, _⟩, _⟩ (by exact hbd) _ h⟩
end Go.Rs

