import Derived.Test.YtfaaemggaliojaaDoorER
import Derived.Test.YtfaaemggaliojaaDoorEP
import Derived.Test.YtfaaemggaliojaaDoorMH
set_option linter.all false
set_option linter.unusedSimpArgs false
set_option linter.unusedVariables false
namespace Go.Rs
open Go.Proofs Go.RowKit
set_option maxRecDepth 100000
noncomputable def c22 (x : Flt) (m : Int) (K : AV → List AV → Prop) : Prop :=
    Obl ((0 ≤ m ∧ m ≤ 1048576) ∧ bdF x) (∀ r : Int, szOk m r (smF x ∧ (totF x : Int) ≤ 4 + 4 * (m - r)) → K (.int .i64 r) [])
noncomputable def C22 : List AV → (AV → List AV → Prop) → Prop
  | [.st [.ps .str x_0, .int .i64 x_1, .int .i64 x_2_0, .int .i64 x_2_1, .str x_2_2, .ps .str x_2_3, .ps .node x_2_4], .int .i64 m], K => c22 ⟨x_0, x_1, ⟨x_2_0, x_2_1, x_2_2, x_2_3, x_2_4⟩⟩ m K
  | _, _ => False
noncomputable def E22 : Ctx := mkE tab [(46, .gen .ps C46), (47, .gen .ps C47)]
noncomputable def O22 : Nat → List DI := ordL []
theorem a22 (x : Flt) (m : Int) (hb : BdAs [.st (flC x), .int .i64 m]) (K : AV → List AV → Prop) (h : c22 x m K) : abody E22 O22 .ps Tryd.f22 (Tryd.f22.body.getD .skip) [.st (flC x), .int .i64 m] K := by
  simp only [BdAs, BdA, BdL, BdC, MX, ndC, shC, itC, stC, opC, chC, nwC, flC, rqC, rsC, enc, List.cons_append, List.nil_append, and_true, true_and] at hb
  unfold c22 at h
  obtain ⟨⟨hm, hx⟩, hK⟩ := h
  have hx1 := hx.1
  have hx2 := hx.2
  have ht : totF x = 1 + x.path.length + totN x.value := rfl
  conv => whnf
  repeat' first|((first|refine Cnd.mk (fun h=>?_) (fun h=>?_)|refine Gd.mk (fun h=>?_))<;>(try simp [etas,elDef,-List.getD_eq_getElem?_getD] at h)<;>conv=>whnf)|((first|refine Obl.mk (by first|omega|rfl|exact inK_byte _|(simp only [inK,Int.toNat_natCast,etas,elDef,m47]<;>first|omega|grind)|grind [inK,m47]) ?_|refine OblG.mk (by ((conv=>whnf);(repeat (first|refine Bx.mk ?_|(intro h;(try simp [etas,elDef,-List.getD_eq_getElem?_getD] at h);conv=>whnf)));(first|omega|rfl|exact inK_byte _|(simp only [inK,Int.toNat_natCast,etas,elDef,m47]<;>first|omega|grind)|grind [inK,m47]))) ?_|refine And.intro ?_ ?_)<;>conv=>whnf)|exact True.intro|(intro;conv=>whnf)
  · exact hK _ (.inl rfl)
  · exact hK _ (.inl rfl)
  · rename_i r1 hr1 h0 r hr
    have h5 : smN x.value ∧ (totN x.value : Int) ≤ 3 + 3 * (r1 - r) := by
      rcases hr with h | h
      · omega
      · have h6 := h.2.2
        simp only [nd_eta] at h6
        exact h6
    have h6 := h5.2
    exact hK _ (.inr ⟨by omega, by omega, ⟨by omega, h5.1⟩, by omega⟩)
theorem s22 : (CtrOK Tryd.prog 22 (.gen .ps C22) ∧ Callable Tryd.prog 22) := by
  refine gen_ok (E := E22) (mkE_cons s46 (mkE_cons s47 (mkE_nil tab_ok))) mix (O := O22) (C := C22) (own := .ps) Tryd.func22 rfl (by rfl) (by kernel_rfl) (fun args K h hbd => ?_)
  unfold C22 at h; split at h
  case h_2 => exact h.elim
  exact ⟨Nat.le_of_ble_eq_true rfl, a22 ⟨_, _, ⟨_, _, _, _, _⟩⟩ _ (by exact hbd) _ h⟩
noncomputable def c6 (l : List Flt) (m : Int) (K : AV → List AV → Prop) : Prop :=
    Obl ((0 ≤ m ∧ m ≤ 1048576) ∧ ∀ x ∈ l, bdF x) (∀ r : Int, szOk m r (smFs l ∧ (totFs l : Int) ≤ 5 * (m - r)) → K (.int .i64 r) [])
noncomputable def C6 : List AV → (AV → List AV → Prop) → Prop
  | [.ps .flt l, .int .i64 m], K => c6 l m K
  | _, _ => False
noncomputable def E6 : Ctx := mkE tab [(22, .gen .ps C22)]
noncomputable def O6 : Nat → List DI := ordL []
theorem a6 (l : List Flt) (m : Int) (hb : BdAs [.ps .flt l, .int .i64 m]) (K : AV → List AV → Prop) (h : c6 l m K) : abody E6 O6 .ps Tryd.f6 (Tryd.f6.body.getD .skip) [.ps .flt l, .int .i64 m] K := by
  simp only [BdAs, BdA, BdL, BdC, MX, ndC, shC, itC, stC, opC, chC, nwC, flC, rqC, rsC, enc, List.cons_append, List.nil_append, and_true, true_and] at hb
  unfold c6 at h
  obtain ⟨⟨hm, hx⟩, hK⟩ := h
  have hkid : ∀ j, j < l.length → bdF (l.getD j default) := fun j hj => by rw [getD_get hj]; exact hx _ (List.getElem_mem hj)
  conv => whnf
  repeat' first|((first|refine Cnd.mk (fun h=>?_) (fun h=>?_)|refine Gd.mk (fun h=>?_))<;>(try simp [etas,elDef,-List.getD_eq_getElem?_getD] at h)<;>conv=>whnf)|((first|refine Obl.mk (by first|omega|rfl|exact inK_byte _|(simp only [inK,Int.toNat_natCast,etas,elDef]<;>first|omega|grind)|grind [inK]) ?_|refine OblG.mk (by ((conv=>whnf);(repeat (first|refine Bx.mk ?_|(intro h;(try simp [etas,elDef,-List.getD_eq_getElem?_getD] at h);conv=>whnf)));(first|omega|rfl|exact inK_byte _|(simp only [inK,Int.toNat_natCast,etas,elDef]<;>first|omega|grind)|grind [inK]))) ?_|refine And.intro ?_ ?_)<;>conv=>whnf)|exact True.intro|(intro;conv=>whnf)
  · exact hK _ (.inl rfl)
  have hz0 : totFs (l.take 0) = 0 := rfl
  refine aloop_intro (Nat × Int) (fun ⟨i, q⟩ => i ≤ l.length ∧ 0 ≤ q ∧ q ≤ m ∧ (∀ j, j < i → smF (l.getD j default)) ∧ (totFs (l.take i) : Int) + 5 * q ≤ 5 * (m - l.length) + 5 * i) (fun ⟨i, q⟩ => l.length - i) (fun ⟨i, q⟩ => [(5, .int .i64 i), (1, .int .i64 q)]) (fun ⟨i, q⟩ => []) [] (0, m - l.length) [] [] ?_ ?_ (by exact sgOk_of (by rfl)) ?_
  · first | (simp; done) | (simp; assumption) | (simp only; grind)
  · iterate 2 ((all_goals (conv=>whnf));(repeat' (first|exact trivial|rfl|(refine nilEq ?_;first|rfl|(simp only [*];done)|(simp [*];done)|grind)|apply And.intro|((first|apply intEq|apply boolEq|apply strEq|apply psEq|apply nilEq|apply arrEq);(try simp only [Int.toNat_natCast,etas,elDef]);first | done | omega | grind | (simp only [*]; done) | (simp [*]; done)))));(all_goals ((try simp only [Int.toNat_natCast,etas,elDef]);first | done | omega | grind | (simp only [*]; done) | (simp [*]; done)))
  rintro ⟨i, q⟩ hinv
  dsimp only at hinv
  conv => whnf
  obtain ⟨hi1, hi2, hi3, hi4, hi5⟩ := hinv
  have htk := fun h => totFs_at2 (l := l) (i := i) h
  repeat' first|((first|refine Cnd.mk (fun h=>?_) (fun h=>?_)|refine Gd.mk (fun h=>?_))<;>(try simp [etas,elDef,-List.getD_eq_getElem?_getD] at h)<;>conv=>whnf)|((first|refine Obl.mk (by first|omega|rfl|exact inK_byte _|(simp only [inK,Int.toNat_natCast,etas,elDef]<;>first|omega|grind)|grind [inK]) ?_|refine OblG.mk (by ((conv=>whnf);(repeat (first|refine Bx.mk ?_|(intro h;(try simp [etas,elDef,-List.getD_eq_getElem?_getD] at h);conv=>whnf)));(first|omega|rfl|exact inK_byte _|(simp only [inK,Int.toNat_natCast,etas,elDef]<;>first|omega|grind)|grind [inK]))) ?_|refine And.intro ?_ ?_)<;>conv=>whnf)|exact True.intro|(intro;conv=>whnf)
  · exact hK _ (.inl rfl)
  · rename_i _ r hr
    have htk := htk ‹_›
    have h5 : smF (l.getD i default) ∧ (totF (l.getD i default) : Int) ≤ 4 + 4 * (q - r) := by
      rcases hr with h | h
      · omega
      · have h6 := h.2.2
        simp only [nd_eta, getD_nat] at h6
        exact h6
    have h6 := h5.2
    exact ⟨(i + 1, r), [], [], ⟨by omega, by omega, by omega, fun j hj => by rcases Nat.lt_succ_iff_lt_or_eq.1 hj with h | h; exact hi4 j h; rw [h]; exact h5.1, by rw [htk]; push_cast; omega⟩, by simp only; omega, by iterate 2 ((all_goals (conv=>whnf));(repeat' (first|exact trivial|rfl|(refine nilEq ?_;first|rfl|(simp only [*];done)|(simp [*];done)|grind)|apply And.intro|((first|apply intEq|apply boolEq|apply strEq|apply psEq|apply nilEq|apply arrEq);(try simp only [Int.toNat_natCast,etas,elDef]);first | done | omega | grind | (simp only [*]; done) | (simp [*]; done)))));(all_goals ((try simp only [Int.toNat_natCast,etas,elDef]);first | done | omega | grind | (simp only [*]; done) | (simp [*]; done))), (by exact sgOk_of (by rfl))⟩
  · have e1 : l.take i = l := List.take_of_length_le (by omega)
    rw [e1] at hi5
    exact hK _ (.inr ⟨by omega, by omega, smFs_of (by omega) fun j hj => hi4 j (by omega), by omega⟩)
theorem s6 : (CtrOK Tryd.prog 6 (.gen .ps C6) ∧ Callable Tryd.prog 6) := by
  refine gen_ok (E := E6) (mkE_cons s22 (mkE_nil tab_ok)) mix (O := O6) (C := C6) (own := .ps) Tryd.func6 rfl (by rfl) (by kernel_rfl) (fun args K h hbd => ?_)
  unfold C6 at h; split at h
  case h_2 => exact h.elim
  exact ⟨Nat.le_of_ble_eq_true rfl, a6 _ _ (by exact hbd) _ h⟩
noncomputable def v30 (a : Flt) (b : Flt) : AV := .bool (eqD a b)
noncomputable def o30 (a : Flt) (b : Flt) : Prop := True
noncomputable def F30 : List AV → QR
  | [.st [.ps .str a_0, .int .i64 a_1, .int .i64 a_2_0, .int .i64 a_2_1, .str a_2_2, .ps .str a_2_3, .ps .node a_2_4], .st [.ps .str b_0, .int .i64 b_1, .int .i64 b_2_0, .int .i64 b_2_1, .str b_2_2, .ps .str b_2_3, .ps .node b_2_4]] => some (none, v30 ⟨a_0, a_1, ⟨a_2_0, a_2_1, a_2_2, a_2_3, a_2_4⟩⟩ ⟨b_0, b_1, ⟨b_2_0, b_2_1, b_2_2, b_2_3, b_2_4⟩⟩)
  | _ => none
noncomputable def E30 : Ctx := mkE tab [(11, .pure F11), (60, .pure F60)]
noncomputable def O30 : Nat → List DI := ordL []
theorem a30 (a : Flt) (b : Flt) (hb : BdAs [.st (flC a), .st (flC b)]) (ho : o30 a b) (K : AV → List AV → Prop) (hK : K (v30 a b) []) : abody E30 O30 .ps Tryd.f30 (Tryd.f30.body.getD .skip) [.st (flC a), .st (flC b)] K := by
  simp only [BdAs, BdA, BdL, BdC, MX, ndC, shC, itC, stC, opC, chC, nwC, flC, rqC, rsC, enc, List.cons_append, List.nil_append, and_true, true_and] at hb
  unfold v30 at hK
  conv => whnf
  repeat' first|((first|refine Cnd.mk (fun h=>?_) (fun h=>?_)|refine Gd.mk (fun h=>?_))<;>(try simp [etas,elDef,-List.getD_eq_getElem?_getD] at h)<;>conv=>whnf)|((first|refine Obl.mk (by first|omega|rfl|exact inK_byte _|(simp only [inK,Int.toNat_natCast,etas,elDef,o60,m60]<;>first|omega|grind)|grind [inK,o60,m60]) ?_|refine OblG.mk (by ((conv=>whnf);(repeat (first|refine Bx.mk ?_|(intro h;(try simp [etas,elDef,-List.getD_eq_getElem?_getD] at h);conv=>whnf)));(first|omega|rfl|exact inK_byte _|(simp only [inK,Int.toNat_natCast,etas,elDef,o60,m60]<;>first|omega|grind)|grind [inK,o60,m60]))) ?_|refine And.intro ?_ ?_)<;>conv=>whnf)|exact True.intro|(intro;conv=>whnf)
  · exact leafB hK (eqD_no.2 (by grind [eqD_no]))
  · exact leafB hK (eqD_no.2 (by grind))
  · exact leafB hK (eqD_no.2 (by grind [eqD_no]))
  · exact leafB hK (eqD_iff.2 (flt_ext (by grind [eqD_iff]) (by grind) (by grind [eqD_iff])))
theorem s30 : (CtrOK Tryd.prog 30 (.pure F30) ∧ Callable Tryd.prog 30) := by
  refine pure_ok (E := E30) (mkE_cons s11 (mkE_cons s60 (mkE_nil tab_ok))) mix (O := O30) (F := F30) Tryd.func30 rfl (by rfl) (by kernel_rfl) (fun args o v h => ?_) (fun args o v h => ?_) (fun args o v h hbd hp K hK => ?_)
  · unfold F30 at h; split at h <;> cases h; first | trivial | (simp [v30, Scalar, Scalar2, Scalar1, stC, ndC, itC, chC, nwC])
  · unfold F30 at h; split at h <;> cases h; exact Nat.le_of_ble_eq_true rfl
  · unfold F30 at h; split at h
    case h_2 => cases h
    cases h
    exact a30 ⟨_, _, ⟨_, _, _, _, _⟩⟩ ⟨_, _, ⟨_, _, _, _, _⟩⟩ (by exact hbd) trivial K hK
noncomputable def v13 (a : List Flt) (b : List Flt) : AV := .bool (eqD a b)
noncomputable def o13 (a : List Flt) (b : List Flt) : Prop := True
noncomputable def F13 : List AV → QR
  | [.ps .flt a, .ps .flt b] => some (none, v13 a b)
  | _ => none
noncomputable def E13 : Ctx := mkE tab [(30, .pure F30)]
noncomputable def O13 : Nat → List DI := ordL [(6, [.q 0, .q 1, .q 2, .q 3, .q 4, .q 5, .q 6, .q 7, .q 8, .q 9])]
theorem a13 (a : List Flt) (b : List Flt) (hb : BdAs [.ps .flt a, .ps .flt b]) (ho : o13 a b) (K : AV → List AV → Prop) (hK : K (v13 a b) []) : abody E13 O13 .ps Tryd.f13 (Tryd.f13.body.getD .skip) [.ps .flt a, .ps .flt b] K := by
  simp only [BdAs, BdA, BdL, BdC, MX, ndC, shC, itC, stC, opC, chC, nwC, flC, rqC, rsC, enc, List.cons_append, List.nil_append, and_true, true_and] at hb
  unfold v13 at hK
  conv => whnf
  repeat' first|((first|refine Cnd.mk (fun h=>?_) (fun h=>?_)|refine Gd.mk (fun h=>?_))<;>(try simp [etas,elDef,-List.getD_eq_getElem?_getD] at h)<;>conv=>whnf)|((first|refine Obl.mk (by first|omega|rfl|exact inK_byte _|(simp only [inK,Int.toNat_natCast,etas,elDef]<;>first|omega|grind)|grind [inK]) ?_|refine OblG.mk (by ((conv=>whnf);(repeat (first|refine Bx.mk ?_|(intro h;(try simp [etas,elDef,-List.getD_eq_getElem?_getD] at h);conv=>whnf)));(first|omega|rfl|exact inK_byte _|(simp only [inK,Int.toNat_natCast,etas,elDef]<;>first|omega|grind)|grind [inK]))) ?_|refine And.intro ?_ ?_)<;>conv=>whnf)|exact True.intro|(intro;conv=>whnf)
  · exact leafB hK (eqD_no.2 (by grind))
  refine aloop_intro Nat (fun k => k ≤ a.length ∧ ∀ j, j < k → a.getD j default = b.getD j default) (fun k => a.length - k) (fun k => [(5, .int .i64 k)]) (fun _ => []) [] 0 [] [] (by simp) ?_ (by exact sgOk_of (by rfl)) ?_
  · iterate 2 ((all_goals (conv=>whnf));(repeat' (first|exact trivial|rfl|(refine nilEq ?_;first|rfl|(simp only [*];done)|(simp [*];done)|grind)|apply And.intro|((first|apply intEq|apply boolEq|apply strEq|apply psEq|apply nilEq|apply arrEq);(try simp only [Int.toNat_natCast,etas,elDef]);first | done | omega | grind | (simp only [*]; done) | (simp [*]; done)))));(all_goals ((try simp only [Int.toNat_natCast,etas,elDef]);first | done | omega | grind | (simp only [*]; done) | (simp [*]; done)))
  rintro i ⟨hi, hj⟩
  conv => whnf
  repeat' first|((first|refine Cnd.mk (fun h=>?_) (fun h=>?_)|refine Gd.mk (fun h=>?_))<;>(try simp [etas,elDef,-List.getD_eq_getElem?_getD] at h)<;>conv=>whnf)|((first|refine Obl.mk (by first|omega|rfl|exact inK_byte _|(simp only [inK,Int.toNat_natCast,etas,elDef]<;>first|omega|grind)|grind [inK]) ?_|refine OblG.mk (by ((conv=>whnf);(repeat (first|refine Bx.mk ?_|(intro h;(try simp [etas,elDef,-List.getD_eq_getElem?_getD] at h);conv=>whnf)));(first|omega|rfl|exact inK_byte _|(simp only [inK,Int.toNat_natCast,etas,elDef]<;>first|omega|grind)|grind [inK]))) ?_|refine And.intro ?_ ?_)<;>conv=>whnf)|exact True.intro|(intro;conv=>whnf)
  · exact leafB hK (eqD_no.2 (by grind [eqD_no]))
  · exact ⟨i + 1, [], [], ⟨by omega, by grind [eqD_iff]⟩, by omega, by iterate 2 ((all_goals (conv=>whnf));(repeat' (first|exact trivial|rfl|(refine nilEq ?_;first|rfl|(simp only [*];done)|(simp [*];done)|grind)|apply And.intro|((first|apply intEq|apply boolEq|apply strEq|apply psEq|apply nilEq|apply arrEq);(try simp only [Int.toNat_natCast,etas,elDef]);first | done | omega | grind | (simp only [*]; done) | (simp [*]; done)))));(all_goals ((try simp only [Int.toNat_natCast,etas,elDef]);first | done | omega | grind | (simp only [*]; done) | (simp [*]; done))), (by exact sgOk_of (by rfl))⟩
  · exact leafB hK (eqD_iff.2 (listEq default (by omega) (by grind)))
theorem s13 : (CtrOK Tryd.prog 13 (.pure F13) ∧ Callable Tryd.prog 13) := by
  refine pure_ok (E := E13) (mkE_cons s30 (mkE_nil tab_ok)) mix (O := O13) (F := F13) Tryd.func13 rfl (by rfl) (by kernel_rfl) (fun args o v h => ?_) (fun args o v h => ?_) (fun args o v h hbd hp K hK => ?_)
  · unfold F13 at h; split at h <;> cases h; first | trivial | (simp [v13, Scalar, Scalar2, Scalar1, stC, ndC, itC, chC, nwC])
  · unfold F13 at h; split at h <;> cases h; exact Nat.le_of_ble_eq_true rfl
  · unfold F13 at h; split at h
    case h_2 => cases h
    cases h
    exact a13 _ _ (by exact hbd) trivial K hK
def ftD (x : Flt) : List AV := .own .str x.path :: .int .i64 x.test :: ndD x.value
noncomputable def c27d (x : Flt) (K : AV → List AV → Prop) : Prop :=
    Obl (smF x) (K (.st (ftD x)) [])
noncomputable def D27d : List AV → (AV → List AV → Prop) → Prop
  | [.st [.ps .str x_0, .int .i64 x_1, .int .i64 x_2_0, .int .i64 x_2_1, .str x_2_2, .ps .str x_2_3, .ps .node x_2_4]], K => c27d ⟨x_0, x_1, ⟨x_2_0, x_2_1, x_2_2, x_2_3, x_2_4⟩⟩ K
  | _, _ => False
noncomputable def C27d (args : List AV) (K : AV → List AV → Prop) : Prop := D27d (fixAs args) K
noncomputable def E27d : Ctx := mkE tab [(54, .gen .ow C54d), (55, .gen .ow C55d)]
noncomputable def O27d : Nat → List DI := ordL []
theorem a27d (x : Flt) (hb : BdAs [.st (flC x)]) (K : AV → List AV → Prop) (h : c27d x K) : abodyD E27d O27d .ow Tryd.f27 (Tryd.f27.body.getD .skip) [.st (flC x)] (fun r rs => K (fixR r) (fixAs rs)) := by
  simp only [BdAs, BdA, BdL, BdC, MX, ndC, shC, itC, stC, opC, chC, nwC, flC, rqC, rsC, enc, List.cons_append, List.nil_append, and_true, true_and] at hb
  unfold c27d at h
  obtain ⟨hs, hK⟩ := h
  have hs1 := hs.1
  have hs2 := hs.2
  conv => whnf
  repeat' first|((first|refine Cnd.mk (fun h=>?_) (fun h=>?_)|refine Gd.mk (fun h=>?_))<;>(try simp [etas,elDef,-List.getD_eq_getElem?_getD] at h)<;>conv=>whnf)|((first|refine Obl.mk (by first|omega|rfl|exact inK_byte _|(simp only [inK,Int.toNat_natCast,etas,elDef,m55d]<;>first|omega|grind)|grind [inK,m55d]) ?_|refine OblG.mk (by ((conv=>whnf);(repeat (first|refine Bx.mk ?_|(intro h;(try simp [etas,elDef,-List.getD_eq_getElem?_getD] at h);conv=>whnf)));(first|omega|rfl|exact inK_byte _|(simp only [inK,Int.toNat_natCast,etas,elDef,m55d]<;>first|omega|grind)|grind [inK,m55d]))) ?_|refine And.intro ?_ ?_)<;>conv=>whnf)|exact True.intro|(intro;conv=>whnf)
  all_goals exact leafV hK rfl
theorem s27d : (CtrOK Tryd.prog 27 (.gen .ow C27d) ∧ Callable Tryd.prog 27) := by
  refine gen_okD (E := E27d) (mkE_cons s54d (mkE_cons s55d (mkE_nil tab_ok))) mix (O := O27d) (D := D27d) (own := .ow) Tryd.func27 rfl (by rfl) (by kernel_rfl) (fun args K h hbd => ?_)
  unfold D27d at h; split at h
  case h_2 => exact h.elim
  exact ⟨Nat.le_of_ble_eq_true rfl, a27d ⟨_, _, ⟨_, _, _, _, _⟩⟩ (by exact hbd) _ h⟩
noncomputable def c9d (l : List Flt) (K : AV → List AV → Prop) : Prop :=
    Obl (smFs l) (K (.dp .flt l) [])
noncomputable def D9d : List AV → (AV → List AV → Prop) → Prop
  | [.ps .flt l], K => c9d l K
  | _, _ => False
noncomputable def C9d (args : List AV) (K : AV → List AV → Prop) : Prop := D9d (fixAs args) K
noncomputable def E9d : Ctx := mkE tab [(27, .gen .ow C27d)]
noncomputable def O9d : Nat → List DI := ordL []
theorem a9d (l : List Flt) (hb : BdAs [.ps .flt l]) (K : AV → List AV → Prop) (h : c9d l K) : abodyD E9d O9d .ow Tryd.f9 (Tryd.f9.body.getD .skip) [.ps .flt l] (fun r rs => K (fixR r) (fixAs rs)) := by
  simp only [BdAs, BdA, BdL, BdC, MX, ndC, shC, itC, stC, opC, chC, nwC, flC, rqC, rsC, enc, List.cons_append, List.nil_append, and_true, true_and] at hb
  unfold c9d at h
  obtain ⟨hs, hK⟩ := h
  have hkid : ∀ j, j < l.length → smF (l.getD j default) := fun j hj => hs.kid hj
  have h3 := hs.1
  conv => whnf
  repeat' first|((first|refine Cnd.mk (fun h=>?_) (fun h=>?_)|refine Gd.mk (fun h=>?_))<;>(try simp [etas,elDef,-List.getD_eq_getElem?_getD] at h)<;>conv=>whnf)|((first|refine Obl.mk (by first|omega|rfl|exact inK_byte _|(simp only [inK,Int.toNat_natCast,etas,elDef]<;>first|omega|grind)|grind [inK]) ?_|refine OblG.mk (by ((conv=>whnf);(repeat (first|refine Bx.mk ?_|(intro h;(try simp [etas,elDef,-List.getD_eq_getElem?_getD] at h);conv=>whnf)));(first|omega|rfl|exact inK_byte _|(simp only [inK,Int.toNat_natCast,etas,elDef]<;>first|omega|grind)|grind [inK]))) ?_|refine And.intro ?_ ?_)<;>conv=>whnf)|exact True.intro|(intro;conv=>whnf)
  refine aloop_intro Nat (fun k => k ≤ l.length ∧ True) (fun k => l.length - k) (fun k => [(4, .int .i64 k)]) (fun k => [(7, .tree .flt (fillD default l k))]) [] 0 [] [] ?_ ?_ (by exact sgOk_of (by rfl)) ?_
  · first | (simp; done) | (simp; assumption)
  · iterate 2 ((all_goals (conv=>whnf));(repeat' (first|exact trivial|rfl|(refine nilEq ?_;first|rfl|(simp only [*];done)|(simp [*];done)|grind)|apply And.intro|((first|apply intEq|apply boolEq|apply strEq|apply psEq|apply nilEq|apply arrEq);(try simp only [Int.toNat_natCast,etas,elDef]);first | done | omega | grind | (simp only [*]; done) | (simp [*]; done)))));(all_goals ((try simp only [Int.toNat_natCast,etas,elDef]);first | done | omega | grind | (simp only [*]; done) | (simp [*]; done)))
  rintro i ⟨hi, hj⟩
  conv => whnf
  have hl := fillD_len default l hi
  have hset := fun h => fillD_set default l (k := i) h
  repeat' first|((first|refine Cnd.mk (fun h=>?_) (fun h=>?_)|refine Gd.mk (fun h=>?_))<;>(try simp [etas,elDef,-List.getD_eq_getElem?_getD] at h)<;>conv=>whnf)|((first|refine Obl.mk (by first|omega|rfl|exact inK_byte _|(simp only [inK,Int.toNat_natCast,etas,elDef]<;>first|omega|grind)|grind [inK]) ?_|refine OblG.mk (by ((conv=>whnf);(repeat (first|refine Bx.mk ?_|(intro h;(try simp [etas,elDef,-List.getD_eq_getElem?_getD] at h);conv=>whnf)));(first|omega|rfl|exact inK_byte _|(simp only [inK,Int.toNat_natCast,etas,elDef]<;>first|omega|grind)|grind [inK]))) ?_|refine And.intro ?_ ?_)<;>conv=>whnf)|exact True.intro|(intro;conv=>whnf)
  · exact ⟨i + 1, [], [], ⟨by omega, by grind⟩, by omega, by iterate 2 ((all_goals (conv=>whnf));(repeat' (first|exact trivial|rfl|(refine nilEq ?_;first|rfl|(simp only [*];done)|(simp [*];done)|grind)|apply And.intro|((first|apply intEq|apply boolEq|apply strEq|apply psEq|apply nilEq|apply arrEq);(try simp only [Int.toNat_natCast,etas,elDef]);first | done | omega | grind | (simp only [*]; done) | (simp [*]; done)))));(all_goals ((try simp only [Int.toNat_natCast,etas,elDef]);first | done | omega | grind | (simp only [*]; done) | (simp [*]; done))), (by exact sgOk_of (by rfl))⟩
  · exact leafV hK (by simp_all [fixR, fixV, fixL, fix1, deepE, fillD_all default l ‹l.length ≤ i›])
theorem s9d : (CtrOK Tryd.prog 9 (.gen .ow C9d) ∧ Callable Tryd.prog 9) := by
  refine gen_okD (E := E9d) (mkE_cons s27d (mkE_nil tab_ok)) mix (O := O9d) (D := D9d) (own := .ow) Tryd.func9 rfl (by rfl) (by kernel_rfl) (fun args K h hbd => ?_)
  unfold D9d at h; split at h
  case h_2 => exact h.elim
  exact ⟨Nat.le_of_ble_eq_true rfl, a9d _ (by exact hbd) _ h⟩
noncomputable def c9r (l : List Flt) (K : AV → List AV → Prop) : Prop :=
    Obl (smFs l) (K (.wr .flt l) [])
noncomputable def C9r : List AV → (AV → List AV → Prop) → Prop
  | [.ps .flt l], K => c9r l K
  | _, _ => False
theorem s9r : CtrOK Tryd.prog 9 (.gen .ow C9r) ∧ Callable Tryd.prog 9 := by
  refine ⟨Snd.of (Snd.lend s9d.1) fun vs K h => ?_, s9d.2⟩
  unfold C9r at h
  split at h
  case h_2 => exact h.elim
  unfold c9r at h
  exact ⟨rfl, h.1, rfl, rfl, h.2⟩
end Go.Rs

