import Derived.Test.YtmkgadogaefkaaaER
import Derived.Test.YtmkgadogaefkaaaEP
import Derived.Test.YtmkgadogaefkaaaMH
set_option linter.all false
set_option linter.unusedSimpArgs false
set_option linter.unusedVariables false
namespace Go.Rs
open Go.Proofs Go.RowKit
set_option maxRecDepth 100000
def nwD (x : Nws) : List AV := .str x.name :: .bool x.gone :: (ndD x.node ++ [.int .i64 x.version])
noncomputable def c24 (x : Nws) (m : Int) (K : AV → List AV → Prop) : Prop :=
    Obl ((0 ≤ m ∧ m ≤ 1048576) ∧ bdN x.node) (∀ r : Int, szOk m r (smN x.node ∧ (totN x.node : Int) ≤ 3 + 3 * (m - r)) → K (.int .i64 r) [])
noncomputable def C24 : List AV → (AV → List AV → Prop) → Prop
  | [.st [.str x_0, .bool x_1, .int .i64 x_2_0, .int .i64 x_2_1, .str x_2_2, .ps .str x_2_3, .ps .node x_2_4, .int .i64 x_3], .int .i64 m], K => c24 ⟨x_0, x_1, ⟨x_2_0, x_2_1, x_2_2, x_2_3, x_2_4⟩, x_3⟩ m K
  | _, _ => False
noncomputable def E24 : Ctx := mkE tab [(55, .gen .ps C55)]
noncomputable def O24 : Nat → List DI := ordL []
theorem a24 (x : Nws) (m : Int) (hb : BdAs [.st (nwC x), .int .i64 m]) (K : AV → List AV → Prop) (h : c24 x m K) : abody E24 O24 .ps Try.f24 (Try.f24.body.getD .skip) [.st (nwC x), .int .i64 m] K := by
  simp only [BdAs, BdA, BdL, BdC, MX, ndC, shC, itC, stC, opC, chC, nwC, flC, rqC, rsC, enc, List.cons_append, List.nil_append, and_true, true_and] at hb
  unfold c24 at h
  obtain ⟨⟨hm, hx⟩, hK⟩ := h
  conv => whnf
  repeat' first|(refine Cnd.mk (fun h=>?_) (fun h=>?_)<;>(try simp [etas,elDef,-List.getD_eq_getElem?_getD] at h)<;>conv=>whnf)|(refine Obl.mk (by first|omega|rfl|exact inK_byte _|(simp only [inK,Int.toNat_natCast,etas,elDef,m55]<;>first|omega|grind)|grind [inK,m55]) ?_<;>conv=>whnf)|(refine OblG.mk (by ((conv=>whnf);(repeat (first|(refine Bx.mk ?_)|(intro h;(try simp [etas,elDef,-List.getD_eq_getElem?_getD] at h);conv=>whnf)));(first|omega|rfl|exact inK_byte _|(simp only [inK,Int.toNat_natCast,etas,elDef,m55]<;>first|omega|grind)|grind [inK,m55]))) ?_<;>conv=>whnf)|(refine Gd.mk (fun h=>?_)<;>(try simp [etas,elDef,-List.getD_eq_getElem?_getD] at h)<;>conv=>whnf)|(refine And.intro ?_ ?_<;>conv=>whnf)|exact True.intro|(intro;conv=>whnf)
  · exact hK _ (.inl rfl)
  · exact hK _ (.inl rfl)
  · rename_i r hr
    have h5 : smN x.node ∧ (totN x.node : Int) ≤ 3 + 3 * (m - x.name.length - r) := by
      rcases hr with h | h
      · omega
      · have h6 := h.2.2
        simp only [nd_eta] at h6
        exact h6
    have h6 := h5.2
    exact hK _ (.inr ⟨by omega, by omega, h5.1, by omega⟩)
theorem s24 : (CtrOK Try.prog 24 (.gen .ps C24) ∧ Callable Try.prog 24) := by
  refine gen_ok (E := E24) (mkE_cons s55 (mkE_nil tab_ok)) mix (O := O24) (C := C24) (own := .ps) Try.func24 rfl (by rfl) (by kernel_rfl) (fun args K h hbd => ?_)
  unfold C24 at h; split at h
  case h_2 => exact h.elim
  exact ⟨Nat.le_of_ble_eq_true rfl, a24 ⟨_, _, ⟨_, _, _, _, _⟩, _⟩ _ (by exact hbd) _ h⟩
noncomputable def c6 (l : List Nws) (m : Int) (K : AV → List AV → Prop) : Prop :=
    Obl ((0 ≤ m ∧ m ≤ 1048576) ∧ ∀ x ∈ l, bdN x.node) (∀ r : Int, szOk m r (smWs l ∧ (totWs l : Int) ≤ 6 * (m - r)) → K (.int .i64 r) [])
noncomputable def C6 : List AV → (AV → List AV → Prop) → Prop
  | [.ps .nws l, .int .i64 m], K => c6 l m K
  | _, _ => False
noncomputable def E6 : Ctx := mkE tab [(24, .gen .ps C24)]
noncomputable def O6 : Nat → List DI := ordL []
theorem a6 (l : List Nws) (m : Int) (hb : BdAs [.ps .nws l, .int .i64 m]) (K : AV → List AV → Prop) (h : c6 l m K) : abody E6 O6 .ps Try.f6 (Try.f6.body.getD .skip) [.ps .nws l, .int .i64 m] K := by
  simp only [BdAs, BdA, BdL, BdC, MX, ndC, shC, itC, stC, opC, chC, nwC, flC, rqC, rsC, enc, List.cons_append, List.nil_append, and_true, true_and] at hb
  unfold c6 at h
  obtain ⟨⟨hm, hx⟩, hK⟩ := h
  have hkid : ∀ j, j < l.length → bdN (l.getD j default).node := fun j hj => by rw [getD_get hj]; exact hx _ (List.getElem_mem hj)
  conv => whnf
  repeat' first|(refine Cnd.mk (fun h=>?_) (fun h=>?_)<;>(try simp [etas,elDef,-List.getD_eq_getElem?_getD] at h)<;>conv=>whnf)|(refine Obl.mk (by first|omega|rfl|exact inK_byte _|(simp only [inK,Int.toNat_natCast,etas,elDef]<;>first|omega|grind)|grind [inK]) ?_<;>conv=>whnf)|(refine OblG.mk (by ((conv=>whnf);(repeat (first|(refine Bx.mk ?_)|(intro h;(try simp [etas,elDef,-List.getD_eq_getElem?_getD] at h);conv=>whnf)));(first|omega|rfl|exact inK_byte _|(simp only [inK,Int.toNat_natCast,etas,elDef]<;>first|omega|grind)|grind [inK]))) ?_<;>conv=>whnf)|(refine Gd.mk (fun h=>?_)<;>(try simp [etas,elDef,-List.getD_eq_getElem?_getD] at h)<;>conv=>whnf)|(refine And.intro ?_ ?_<;>conv=>whnf)|exact True.intro|(intro;conv=>whnf)
  · exact hK _ (.inl rfl)
  have hz0 : totWs (l.take 0) = 0 := rfl
  refine aloop_intro (Nat × Int) (fun ⟨i, q⟩ => i ≤ l.length ∧ 0 ≤ q ∧ q ≤ m ∧ (∀ j, j < i → smN (l.getD j default).node) ∧ (totWs (l.take i) : Int) + 6 * q ≤ 6 * (m - l.length) + 6 * i) (fun ⟨i, q⟩ => l.length - i) (fun ⟨i, q⟩ => [(5, .int .i64 i), (1, .int .i64 q)]) (fun ⟨i, q⟩ => []) [] (0, m - l.length) [] [] ?_ ?_ (by exact sgOk_of (by rfl)) ?_
  · first | (simp; done) | (simp; assumption) | (simp only; grind)
  · iterate 2 ((all_goals (conv=>whnf));(repeat' (first|exact trivial|rfl|(refine nilEq ?_;first|rfl|(simp only [*];done)|(simp [*];done)|grind)|apply And.intro|((first|refine intEq ?_|refine boolEq ?_|refine strEq ?_|refine psEq ?_|refine nilEq ?_|refine arrEq ?_);(try simp only [Int.toNat_natCast,etas,elDef]);first | done | omega | grind | (simp only [*]; done) | (simp [*]; done)))));(all_goals ((try simp only [Int.toNat_natCast,etas,elDef]);first | done | omega | grind | (simp only [*]; done) | (simp [*]; done)))
  rintro ⟨i, q⟩ hinv
  dsimp only at hinv
  conv => whnf
  obtain ⟨hi1, hi2, hi3, hi4, hi5⟩ := hinv
  have htk := fun h => totWs_take (l := l) (i := i) h
  repeat' first|(refine Cnd.mk (fun h=>?_) (fun h=>?_)<;>(try simp [etas,elDef,-List.getD_eq_getElem?_getD] at h)<;>conv=>whnf)|(refine Obl.mk (by first|omega|rfl|exact inK_byte _|(simp only [inK,Int.toNat_natCast,etas,elDef]<;>first|omega|grind)|grind [inK]) ?_<;>conv=>whnf)|(refine OblG.mk (by ((conv=>whnf);(repeat (first|(refine Bx.mk ?_)|(intro h;(try simp [etas,elDef,-List.getD_eq_getElem?_getD] at h);conv=>whnf)));(first|omega|rfl|exact inK_byte _|(simp only [inK,Int.toNat_natCast,etas,elDef]<;>first|omega|grind)|grind [inK]))) ?_<;>conv=>whnf)|(refine Gd.mk (fun h=>?_)<;>(try simp [etas,elDef,-List.getD_eq_getElem?_getD] at h)<;>conv=>whnf)|(refine And.intro ?_ ?_<;>conv=>whnf)|exact True.intro|(intro;conv=>whnf)
  · exact hK _ (.inl rfl)
  · rename_i _ r hr
    have htk := htk ‹_›
    have h5 : smN (l.getD i default).node ∧ (totN (l.getD i default).node : Int) ≤ 3 + 3 * (q - r) := by
      rcases hr with h | h
      · omega
      · have h6 := h.2.2
        simp only [nd_eta, getD_nat] at h6
        exact h6
    have h6 := h5.2
    exact ⟨(i + 1, r), [], [], ⟨by omega, by omega, by omega, fun j hj => by rcases Nat.lt_succ_iff_lt_or_eq.1 hj with h | h; exact hi4 j h; rw [h]; exact h5.1, by rw [htk]; push_cast; omega⟩, by simp only; omega, by iterate 2 ((all_goals (conv=>whnf));(repeat' (first|exact trivial|rfl|(refine nilEq ?_;first|rfl|(simp only [*];done)|(simp [*];done)|grind)|apply And.intro|((first|refine intEq ?_|refine boolEq ?_|refine strEq ?_|refine psEq ?_|refine nilEq ?_|refine arrEq ?_);(try simp only [Int.toNat_natCast,etas,elDef]);first | done | omega | grind | (simp only [*]; done) | (simp [*]; done)))));(all_goals ((try simp only [Int.toNat_natCast,etas,elDef]);first | done | omega | grind | (simp only [*]; done) | (simp [*]; done))), (by exact sgOk_of (by rfl))⟩
  · have e1 : l.take i = l := List.take_of_length_le (by omega)
    rw [e1] at hi5
    exact hK _ (.inr ⟨by omega, by omega, smWs_of (by omega) fun j hj => hi4 j (by omega), by omega⟩)
theorem s6 : (CtrOK Try.prog 6 (.gen .ps C6) ∧ Callable Try.prog 6) := by
  refine gen_ok (E := E6) (mkE_cons s24 (mkE_nil tab_ok)) mix (O := O6) (C := C6) (own := .ps) Try.func6 rfl (by rfl) (by kernel_rfl) (fun args K h hbd => ?_)
  unfold C6 at h; split at h
  case h_2 => exact h.elim
  exact ⟨Nat.le_of_ble_eq_true rfl, a6 _ _ (by exact hbd) _ h⟩
noncomputable def v38 (a : Nws) (b : Nws) : AV := .bool (eqD a b)
noncomputable def o38 (a : Nws) (b : Nws) : Prop := True
noncomputable def F38 : List AV → QR
  | [.st [.str a_0, .bool a_1, .int .i64 a_2_0, .int .i64 a_2_1, .str a_2_2, .ps .str a_2_3, .ps .node a_2_4, .int .i64 a_3], .st [.str b_0, .bool b_1, .int .i64 b_2_0, .int .i64 b_2_1, .str b_2_2, .ps .str b_2_3, .ps .node b_2_4, .int .i64 b_3]] => some (none, v38 ⟨a_0, a_1, ⟨a_2_0, a_2_1, a_2_2, a_2_3, a_2_4⟩, a_3⟩ ⟨b_0, b_1, ⟨b_2_0, b_2_1, b_2_2, b_2_3, b_2_4⟩, b_3⟩)
  | _ => none
noncomputable def E38 : Ctx := mkE tab [(73, .pure F73)]
noncomputable def O38 : Nat → List DI := ordL []
theorem a38 (a : Nws) (b : Nws) (hb : BdAs [.st (nwC a), .st (nwC b)]) (ho : o38 a b) (K : AV → List AV → Prop) (hK : K (v38 a b) []) : abody E38 O38 .ps Try.f38 (Try.f38.body.getD .skip) [.st (nwC a), .st (nwC b)] K := by
  simp only [BdAs, BdA, BdL, BdC, MX, ndC, shC, itC, stC, opC, chC, nwC, flC, rqC, rsC, enc, List.cons_append, List.nil_append, and_true, true_and] at hb
  unfold v38 at hK
  conv => whnf
  repeat' first|(refine Cnd.mk (fun h=>?_) (fun h=>?_)<;>(try simp [etas,elDef,-List.getD_eq_getElem?_getD] at h)<;>conv=>whnf)|(refine Obl.mk (by first|omega|rfl|exact inK_byte _|(simp only [inK,Int.toNat_natCast,etas,elDef,o73,m73]<;>first|omega|grind)|grind [inK,o73,m73]) ?_<;>conv=>whnf)|(refine OblG.mk (by ((conv=>whnf);(repeat (first|(refine Bx.mk ?_)|(intro h;(try simp [etas,elDef,-List.getD_eq_getElem?_getD] at h);conv=>whnf)));(first|omega|rfl|exact inK_byte _|(simp only [inK,Int.toNat_natCast,etas,elDef,o73,m73]<;>first|omega|grind)|grind [inK,o73,m73]))) ?_<;>conv=>whnf)|(refine Gd.mk (fun h=>?_)<;>(try simp [etas,elDef,-List.getD_eq_getElem?_getD] at h)<;>conv=>whnf)|(refine And.intro ?_ ?_<;>conv=>whnf)|exact True.intro|(intro;conv=>whnf)
  · exact leafB hK (eqD_no.2 (by grind))
  · exact leafB hK (eqD_no.2 (by grind))
  · exact leafB hK (eqD_no.2 (by grind [eqD_no]))
  · exact leafB hK (eqD_no.2 (by grind))
  · exact leafB hK (eqD_iff.2 (nws_ext (by grind) (by grind) (by grind [eqD_iff]) (by grind)))
theorem s38 : (CtrOK Try.prog 38 (.pure F38) ∧ Callable Try.prog 38) := by
  refine pure_ok (E := E38) (mkE_cons s73 (mkE_nil tab_ok)) mix (O := O38) (F := F38) Try.func38 rfl (by rfl) (by kernel_rfl) (fun args o v h => ?_) (fun args o v h => ?_) (fun args o v h hbd hp K hK => ?_)
  · unfold F38 at h; split at h <;> cases h; first | trivial | (simp [v38, Scalar, Scalar2, Scalar1, stC, ndC, itC, chC, nwC])
  · unfold F38 at h; split at h <;> cases h; exact Nat.le_of_ble_eq_true rfl
  · unfold F38 at h; split at h
    case h_2 => cases h
    cases h
    exact a38 ⟨_, _, ⟨_, _, _, _, _⟩, _⟩ ⟨_, _, ⟨_, _, _, _, _⟩, _⟩ (by exact hbd) trivial K hK
noncomputable def v12 (a : List Nws) (b : List Nws) : AV := .bool (eqD a b)
noncomputable def o12 (a : List Nws) (b : List Nws) : Prop := True
noncomputable def F12 : List AV → QR
  | [.ps .nws a, .ps .nws b] => some (none, v12 a b)
  | _ => none
noncomputable def E12 : Ctx := mkE tab [(38, .pure F38)]
noncomputable def O12 : Nat → List DI := ordL [(6, [.q 0, .q 1, .q 2, .q 3, .q 4, .q 5, .q 6, .q 7, .q 8, .q 9])]
theorem a12 (a : List Nws) (b : List Nws) (hb : BdAs [.ps .nws a, .ps .nws b]) (ho : o12 a b) (K : AV → List AV → Prop) (hK : K (v12 a b) []) : abody E12 O12 .ps Try.f12 (Try.f12.body.getD .skip) [.ps .nws a, .ps .nws b] K := by
  simp only [BdAs, BdA, BdL, BdC, MX, ndC, shC, itC, stC, opC, chC, nwC, flC, rqC, rsC, enc, List.cons_append, List.nil_append, and_true, true_and] at hb
  unfold v12 at hK
  conv => whnf
  repeat' first|(refine Cnd.mk (fun h=>?_) (fun h=>?_)<;>(try simp [etas,elDef,-List.getD_eq_getElem?_getD] at h)<;>conv=>whnf)|(refine Obl.mk (by first|omega|rfl|exact inK_byte _|(simp only [inK,Int.toNat_natCast,etas,elDef]<;>first|omega|grind)|grind [inK]) ?_<;>conv=>whnf)|(refine OblG.mk (by ((conv=>whnf);(repeat (first|(refine Bx.mk ?_)|(intro h;(try simp [etas,elDef,-List.getD_eq_getElem?_getD] at h);conv=>whnf)));(first|omega|rfl|exact inK_byte _|(simp only [inK,Int.toNat_natCast,etas,elDef]<;>first|omega|grind)|grind [inK]))) ?_<;>conv=>whnf)|(refine Gd.mk (fun h=>?_)<;>(try simp [etas,elDef,-List.getD_eq_getElem?_getD] at h)<;>conv=>whnf)|(refine And.intro ?_ ?_<;>conv=>whnf)|exact True.intro|(intro;conv=>whnf)
  · exact leafB hK (eqD_no.2 (by grind))
  refine aloop_intro Nat (fun k => k ≤ a.length ∧ ∀ j, j < k → a.getD j default = b.getD j default) (fun k => a.length - k) (fun k => [(5, .int .i64 k)]) (fun _ => []) [] 0 [] [] (by simp) ?_ (by exact sgOk_of (by rfl)) ?_
  · iterate 2 ((all_goals (conv=>whnf));(repeat' (first|exact trivial|rfl|(refine nilEq ?_;first|rfl|(simp only [*];done)|(simp [*];done)|grind)|apply And.intro|((first|refine intEq ?_|refine boolEq ?_|refine strEq ?_|refine psEq ?_|refine nilEq ?_|refine arrEq ?_);(try simp only [Int.toNat_natCast,etas,elDef]);first | done | omega | grind | (simp only [*]; done) | (simp [*]; done)))));(all_goals ((try simp only [Int.toNat_natCast,etas,elDef]);first | done | omega | grind | (simp only [*]; done) | (simp [*]; done)))
  rintro i ⟨hi, hj⟩
  conv => whnf
  repeat' first|(refine Cnd.mk (fun h=>?_) (fun h=>?_)<;>(try simp [etas,elDef,-List.getD_eq_getElem?_getD] at h)<;>conv=>whnf)|(refine Obl.mk (by first|omega|rfl|exact inK_byte _|(simp only [inK,Int.toNat_natCast,etas,elDef]<;>first|omega|grind)|grind [inK]) ?_<;>conv=>whnf)|(refine OblG.mk (by ((conv=>whnf);(repeat (first|(refine Bx.mk ?_)|(intro h;(try simp [etas,elDef,-List.getD_eq_getElem?_getD] at h);conv=>whnf)));(first|omega|rfl|exact inK_byte _|(simp only [inK,Int.toNat_natCast,etas,elDef]<;>first|omega|grind)|grind [inK]))) ?_<;>conv=>whnf)|(refine Gd.mk (fun h=>?_)<;>(try simp [etas,elDef,-List.getD_eq_getElem?_getD] at h)<;>conv=>whnf)|(refine And.intro ?_ ?_<;>conv=>whnf)|exact True.intro|(intro;conv=>whnf)
  · exact leafB hK (eqD_no.2 (by grind [eqD_no]))
  · exact ⟨i + 1, [], [], ⟨by omega, by grind [eqD_iff]⟩, by omega, by iterate 2 ((all_goals (conv=>whnf));(repeat' (first|exact trivial|rfl|(refine nilEq ?_;first|rfl|(simp only [*];done)|(simp [*];done)|grind)|apply And.intro|((first|refine intEq ?_|refine boolEq ?_|refine strEq ?_|refine psEq ?_|refine nilEq ?_|refine arrEq ?_);(try simp only [Int.toNat_natCast,etas,elDef]);first | done | omega | grind | (simp only [*]; done) | (simp [*]; done)))));(all_goals ((try simp only [Int.toNat_natCast,etas,elDef]);first | done | omega | grind | (simp only [*]; done) | (simp [*]; done))), (by exact sgOk_of (by rfl))⟩
  · exact leafB hK (eqD_iff.2 (listEq default (by omega) (by grind)))
theorem s12 : (CtrOK Try.prog 12 (.pure F12) ∧ Callable Try.prog 12) := by
  refine pure_ok (E := E12) (mkE_cons s38 (mkE_nil tab_ok)) mix (O := O12) (F := F12) Try.func12 rfl (by rfl) (by kernel_rfl) (fun args o v h => ?_) (fun args o v h => ?_) (fun args o v h hbd hp K hK => ?_)
  · unfold F12 at h; split at h <;> cases h; first | trivial | (simp [v12, Scalar, Scalar2, Scalar1, stC, ndC, itC, chC, nwC])
  · unfold F12 at h; split at h <;> cases h; exact Nat.le_of_ble_eq_true rfl
  · unfold F12 at h; split at h
    case h_2 => cases h
    cases h
    exact a12 _ _ (by exact hbd) trivial K hK
noncomputable def c29d (x : Nws) (K : AV → List AV → Prop) : Prop :=
    Obl (smN x.node) (K (.st (nwD x)) [])
noncomputable def D29d : List AV → (AV → List AV → Prop) → Prop
  | [.st [.str x_0, .bool x_1, .int .i64 x_2_0, .int .i64 x_2_1, .str x_2_2, .ps .str x_2_3, .ps .node x_2_4, .int .i64 x_3]], K => c29d ⟨x_0, x_1, ⟨x_2_0, x_2_1, x_2_2, x_2_3, x_2_4⟩, x_3⟩ K
  | _, _ => False
noncomputable def C29d (args : List AV) (K : AV → List AV → Prop) : Prop := D29d (fixAs args) K
noncomputable def E29d : Ctx := mkE tab [(63, .gen .ow C63d)]
noncomputable def O29d : Nat → List DI := ordL []
theorem a29d (x : Nws) (hb : BdAs [.st (nwC x)]) (K : AV → List AV → Prop) (h : c29d x K) : abodyD E29d O29d .ow Try.f29 (Try.f29.body.getD .skip) [.st (nwC x)] (fun r rs => K (fixR r) (fixAs rs)) := by
  simp only [BdAs, BdA, BdL, BdC, MX, ndC, shC, itC, stC, opC, chC, nwC, flC, rqC, rsC, enc, List.cons_append, List.nil_append, and_true, true_and] at hb
  unfold c29d at h
  obtain ⟨hs, hK⟩ := h
  conv => whnf
  repeat' first|(refine Cnd.mk (fun h=>?_) (fun h=>?_)<;>(try simp [etas,elDef,-List.getD_eq_getElem?_getD] at h)<;>conv=>whnf)|(refine Obl.mk (by first|omega|rfl|exact inK_byte _|(simp only [inK,Int.toNat_natCast,etas,elDef,m63d]<;>first|omega|grind)|grind [inK,m63d]) ?_<;>conv=>whnf)|(refine OblG.mk (by ((conv=>whnf);(repeat (first|(refine Bx.mk ?_)|(intro h;(try simp [etas,elDef,-List.getD_eq_getElem?_getD] at h);conv=>whnf)));(first|omega|rfl|exact inK_byte _|(simp only [inK,Int.toNat_natCast,etas,elDef,m63d]<;>first|omega|grind)|grind [inK,m63d]))) ?_<;>conv=>whnf)|(refine Gd.mk (fun h=>?_)<;>(try simp [etas,elDef,-List.getD_eq_getElem?_getD] at h)<;>conv=>whnf)|(refine And.intro ?_ ?_<;>conv=>whnf)|exact True.intro|(intro;conv=>whnf)
  all_goals exact leafV hK rfl
theorem s29d : (CtrOK Try.prog 29 (.gen .ow C29d) ∧ Callable Try.prog 29) := by
  refine gen_okD (E := E29d) (mkE_cons s63d (mkE_nil tab_ok)) mix (O := O29d) (D := D29d) (own := .ow) Try.func29 rfl (by rfl) (by kernel_rfl) (fun args K h hbd => ?_)
  unfold D29d at h; split at h
  case h_2 => exact h.elim
  exact ⟨Nat.le_of_ble_eq_true rfl, a29d ⟨_, _, ⟨_, _, _, _, _⟩, _⟩ (by exact hbd) _ h⟩
noncomputable def c9d (l : List Nws) (K : AV → List AV → Prop) : Prop :=
    Obl (smWs l) (K (.dp .nws l) [])
noncomputable def D9d : List AV → (AV → List AV → Prop) → Prop
  | [.ps .nws l], K => c9d l K
  | _, _ => False
noncomputable def C9d (args : List AV) (K : AV → List AV → Prop) : Prop := D9d (fixAs args) K
noncomputable def E9d : Ctx := mkE tab [(29, .gen .ow C29d)]
noncomputable def O9d : Nat → List DI := ordL []
theorem a9d (l : List Nws) (hb : BdAs [.ps .nws l]) (K : AV → List AV → Prop) (h : c9d l K) : abodyD E9d O9d .ow Try.f9 (Try.f9.body.getD .skip) [.ps .nws l] (fun r rs => K (fixR r) (fixAs rs)) := by
  simp only [BdAs, BdA, BdL, BdC, MX, ndC, shC, itC, stC, opC, chC, nwC, flC, rqC, rsC, enc, List.cons_append, List.nil_append, and_true, true_and] at hb
  unfold c9d at h
  obtain ⟨hs, hK⟩ := h
  have hkid : ∀ j, j < l.length → smN (l.getD j default).node := fun j hj => hs.kid hj
  have h3 := hs.1
  conv => whnf
  repeat' first|(refine Cnd.mk (fun h=>?_) (fun h=>?_)<;>(try simp [etas,elDef,-List.getD_eq_getElem?_getD] at h)<;>conv=>whnf)|(refine Obl.mk (by first|omega|rfl|exact inK_byte _|(simp only [inK,Int.toNat_natCast,etas,elDef]<;>first|omega|grind)|grind [inK]) ?_<;>conv=>whnf)|(refine OblG.mk (by ((conv=>whnf);(repeat (first|(refine Bx.mk ?_)|(intro h;(try simp [etas,elDef,-List.getD_eq_getElem?_getD] at h);conv=>whnf)));(first|omega|rfl|exact inK_byte _|(simp only [inK,Int.toNat_natCast,etas,elDef]<;>first|omega|grind)|grind [inK]))) ?_<;>conv=>whnf)|(refine Gd.mk (fun h=>?_)<;>(try simp [etas,elDef,-List.getD_eq_getElem?_getD] at h)<;>conv=>whnf)|(refine And.intro ?_ ?_<;>conv=>whnf)|exact True.intro|(intro;conv=>whnf)
  refine aloop_intro Nat (fun k => k ≤ l.length ∧ True) (fun k => l.length - k) (fun k => [(4, .int .i64 k)]) (fun k => [(7, .tree .nws (fillD default l k))]) [] 0 [] [] ?_ ?_ (by exact sgOk_of (by rfl)) ?_
  · first | (simp; done) | (simp; assumption)
  · iterate 2 ((all_goals (conv=>whnf));(repeat' (first|exact trivial|rfl|(refine nilEq ?_;first|rfl|(simp only [*];done)|(simp [*];done)|grind)|apply And.intro|((first|refine intEq ?_|refine boolEq ?_|refine strEq ?_|refine psEq ?_|refine nilEq ?_|refine arrEq ?_);(try simp only [Int.toNat_natCast,etas,elDef]);first | done | omega | grind | (simp only [*]; done) | (simp [*]; done)))));(all_goals ((try simp only [Int.toNat_natCast,etas,elDef]);first | done | omega | grind | (simp only [*]; done) | (simp [*]; done)))
  rintro i ⟨hi, hj⟩
  conv => whnf
  have hl := fillD_len default l hi
  have hset := fun h => fillD_set default l (k := i) h
  repeat' first|(refine Cnd.mk (fun h=>?_) (fun h=>?_)<;>(try simp [etas,elDef,-List.getD_eq_getElem?_getD] at h)<;>conv=>whnf)|(refine Obl.mk (by first|omega|rfl|exact inK_byte _|(simp only [inK,Int.toNat_natCast,etas,elDef]<;>first|omega|grind)|grind [inK]) ?_<;>conv=>whnf)|(refine OblG.mk (by ((conv=>whnf);(repeat (first|(refine Bx.mk ?_)|(intro h;(try simp [etas,elDef,-List.getD_eq_getElem?_getD] at h);conv=>whnf)));(first|omega|rfl|exact inK_byte _|(simp only [inK,Int.toNat_natCast,etas,elDef]<;>first|omega|grind)|grind [inK]))) ?_<;>conv=>whnf)|(refine Gd.mk (fun h=>?_)<;>(try simp [etas,elDef,-List.getD_eq_getElem?_getD] at h)<;>conv=>whnf)|(refine And.intro ?_ ?_<;>conv=>whnf)|exact True.intro|(intro;conv=>whnf)
  · exact ⟨i + 1, [], [], ⟨by omega, by grind⟩, by omega, by iterate 2 ((all_goals (conv=>whnf));(repeat' (first|exact trivial|rfl|(refine nilEq ?_;first|rfl|(simp only [*];done)|(simp [*];done)|grind)|apply And.intro|((first|refine intEq ?_|refine boolEq ?_|refine strEq ?_|refine psEq ?_|refine nilEq ?_|refine arrEq ?_);(try simp only [Int.toNat_natCast,etas,elDef]);first | done | omega | grind | (simp only [*]; done) | (simp [*]; done)))));(all_goals ((try simp only [Int.toNat_natCast,etas,elDef]);first | done | omega | grind | (simp only [*]; done) | (simp [*]; done))), (by exact sgOk_of (by rfl))⟩
  · exact leafV hK (by simp_all [fixR, fixV, fixL, fix1, deepE, fillD_all default l ‹l.length ≤ i›])
theorem s9d : (CtrOK Try.prog 9 (.gen .ow C9d) ∧ Callable Try.prog 9) := by
  refine gen_okD (E := E9d) (mkE_cons s29d (mkE_nil tab_ok)) mix (O := O9d) (D := D9d) (own := .ow) Try.func9 rfl (by rfl) (by kernel_rfl) (fun args K h hbd => ?_)
  unfold D9d at h; split at h
  case h_2 => exact h.elim
  exact ⟨Nat.le_of_ble_eq_true rfl, a9d _ (by exact hbd) _ h⟩
noncomputable def c9r (l : List Nws) (K : AV → List AV → Prop) : Prop :=
    Obl (smWs l) (K (.wr .nws l) [])
noncomputable def C9r : List AV → (AV → List AV → Prop) → Prop
  | [.ps .nws l], K => c9r l K
  | _, _ => False
theorem s9r : CtrOK Try.prog 9 (.gen .ow C9r) ∧ Callable Try.prog 9 := by
  refine ⟨Snd.of (Snd.lend s9d.1) fun vs K h => ?_, s9d.2⟩
  unfold C9r at h
  split at h
  case h_2 => exact h.elim
  unfold c9r at h
  exact ⟨rfl, h.1, rfl, rfl, h.2⟩
end Go.Rs

