import Derived.Test.YtcmdkiolbhccgaaCM
import Derived.Test.YtcmdkiolbhccgaaMC
set_option linter.all false
namespace Go.Rs
open Go.Proofs
set_option maxRecDepth 100000
set_option linter.unusedVariables false
set_option linter.unusedSimpArgs false
noncomputable def v38 (n : Nws) (c : Int) : AV := .bool (newsM n c)
noncomputable def o38 (n : Nws) (c : Int) : Prop := True
noncomputable def F38 : List AV → QR
  | [.st [.str n_0, .bool n_1, .int .i64 n_2_0, .int .i64 n_2_1, .str n_2_2, .ps .str n_2_3, .ps .node n_2_4, .int .i64 n_3], .int .i64 c] => some (none, v38 ⟨n_0, n_1, ⟨n_2_0, n_2_1, n_2_2, n_2_3, n_2_4⟩, n_3⟩ c)
  | _ => none
noncomputable def E38 : Ctx := mkE tab [(49, .pure F49)]
noncomputable def O38 : Nat → List DI := ordL []
theorem a38 (n : Nws) (c : Int) (hb : BdAs [.st (nwC n), .int .i64 c]) (ho : o38 n c) (K : AV → List AV → Prop) (hK : K (v38 n c) []) : abody E38 O38 .ps Try.f38 (Try.f38.body.getD .skip) [.st (nwC n), .int .i64 c] K := by
  simp only [BdAs, BdA, BdL, BdC, MX, ndC, shC, itC, stC, opC, chC, nwC, flC, rqC, rsC, enc, List.cons_append, List.nil_append, and_true, true_and] at hb
  unfold v38 at hK
  conv => whnf
  repeat' first
    | (refine Cnd.mk (fun h => ?_) (fun h => ?_) <;> (try simp [etas, elDef, -List.getD_eq_getElem?_getD] at h) <;> conv => whnf)
    | (refine Obl.mk (by first | omega | rfl | exact inK_byte _ | (simp only [inK, Int.toNat_natCast, etas, elDef] <;> first | omega | grind) | grind [inK]) ?_ <;> conv => whnf)
    | (refine OblG.mk (by conv => whnf
                          repeat (first | (refine Bx.mk ?_) | (intro h; (try simp [etas, elDef, -List.getD_eq_getElem?_getD] at h); conv => whnf))
                          first | omega | rfl | exact inK_byte _ | (simp only [inK, Int.toNat_natCast, etas, elDef] <;> first | omega | grind) | grind [inK]) ?_ <;> conv => whnf)
    | (refine Gd.mk (fun h => ?_) <;> (try simp [etas, elDef, -List.getD_eq_getElem?_getD] at h) <;> conv => whnf)
    | (refine And.intro ?_ ?_ <;> conv => whnf)
    | exact True.intro
    | (intro; conv => whnf)
  all_goals exact leafB hK (by simp only [newsM, nd_eta] <;> grind)
theorem s38 : (CtrOK Try.prog 38 (.pure F38) ∧ Callable Try.prog 38) := by
  refine pure_ok (E := E38) (mkE_cons s49 (mkE_nil tab_ok)) mix (O := O38) (F := F38) Try.func38 rfl (by rfl) (by kernel_rfl) (fun args o v h => ?_) (fun args o v h => ?_) (fun args o v h hbd hp K hK => ?_)
  · unfold F38 at h; split at h <;> cases h; first | trivial | (simp [v38, Scalar, Scalar2, Scalar1, stC, ndC, itC, chC, nwC])
  · unfold F38 at h; split at h <;> cases h; exact Nat.le_of_ble_eq_true rfl
  · unfold F38 at h; split at h
    case h_2 => cases h
    cases h
    exact a38 ⟨_, _, ⟨_, _, _, _, _⟩, _⟩ _ (by exact hbd) trivial K hK
noncomputable def v25 (l : List Nws) (c : Int) : AV := .bool (areNewsM l c)
noncomputable def o25 (l : List Nws) (c : Int) : Prop := True
noncomputable def F25 : List AV → QR
  | [.ps .nws l, .int .i64 c] => some (none, v25 l c)
  | _ => none
noncomputable def E25 : Ctx := mkE tab [(38, .pure F38)]
noncomputable def O25 : Nat → List DI := ordL []
theorem a25 (l : List Nws) (c : Int) (hb : BdAs [.ps .nws l, .int .i64 c]) (ho : o25 l c) (K : AV → List AV → Prop) (hK : K (v25 l c) []) : abody E25 O25 .ps Try.f25 (Try.f25.body.getD .skip) [.ps .nws l, .int .i64 c] K := by
  simp only [BdAs, BdA, BdL, BdC, MX, ndC, shC, itC, stC, opC, chC, nwC, flC, rqC, rsC, enc, List.cons_append, List.nil_append, and_true, true_and] at hb
  unfold v25 at hK
  conv => whnf
  repeat' first
    | (refine Cnd.mk (fun h => ?_) (fun h => ?_) <;> (try simp [etas, elDef, -List.getD_eq_getElem?_getD] at h) <;> conv => whnf)
    | (refine Obl.mk (by first | omega | rfl | exact inK_byte _ | (simp only [inK, Int.toNat_natCast, etas, elDef] <;> first | omega | grind) | grind [inK]) ?_ <;> conv => whnf)
    | (refine OblG.mk (by conv => whnf
                          repeat (first | (refine Bx.mk ?_) | (intro h; (try simp [etas, elDef, -List.getD_eq_getElem?_getD] at h); conv => whnf))
                          first | omega | rfl | exact inK_byte _ | (simp only [inK, Int.toNat_natCast, etas, elDef] <;> first | omega | grind) | grind [inK]) ?_ <;> conv => whnf)
    | (refine Gd.mk (fun h => ?_) <;> (try simp [etas, elDef, -List.getD_eq_getElem?_getD] at h) <;> conv => whnf)
    | (refine And.intro ?_ ?_ <;> conv => whnf)
    | exact True.intro
    | (intro; conv => whnf)
  · exact leafB hK (by grind [areNewsM])
  refine aloop_intro Nat (fun k => k ≤ l.length ∧ feedOk c (l.take k) = true) (fun k => l.length - k) (fun k => [(12, .int .i64 k), (1, .int .i64 (clockF c (l.take k)))]) (fun _ => []) [] 0 [] [] ⟨Nat.zero_le _, rfl⟩ ?_ (by exact sgOk_of (by rfl)) ?_
  · (conv => whnf); (repeat' (first | exact trivial | rfl | (refine nilEq ?_; first | rfl | (simp only [*]; done) | (simp [*]; done) | grind) | apply And.intro | ((first | refine intEq ?_ | refine boolEq ?_ | refine strEq ?_ | refine psEq ?_ | refine nilEq ?_ | refine arrEq ?_); (try simp only [Int.toNat_natCast, etas, elDef]); first | done | omega | grind | (simp only [*]; done) | (simp [*]; done)))); (all_goals (conv => whnf)); (repeat' (first | exact trivial | rfl | (refine nilEq ?_; first | rfl | (simp only [*]; done) | (simp [*]; done) | grind) | apply And.intro | ((first | refine intEq ?_ | refine boolEq ?_ | refine strEq ?_ | refine psEq ?_ | refine nilEq ?_ | refine arrEq ?_); (try simp only [Int.toNat_natCast, etas, elDef]); first | done | omega | grind | (simp only [*]; done) | (simp [*]; done)) | ((try simp only [Int.toNat_natCast, etas, elDef]); first | done | omega | grind | (simp only [*]; done) | (simp [*]; done))))
  rintro i ⟨hi, hj⟩
  have hst := fun h => feedOk_take (c := c) (l := l) (i := i) h
  have hct := fun h => clockF_take (c := c) (l := l) (i := i) h
  conv => whnf
  repeat' first
    | (refine Cnd.mk (fun h => ?_) (fun h => ?_) <;> (try simp [etas, elDef, -List.getD_eq_getElem?_getD] at h) <;> conv => whnf)
    | (refine Obl.mk (by first | omega | rfl | exact inK_byte _ | (simp only [inK, Int.toNat_natCast, etas, elDef] <;> first | omega | grind) | grind [inK]) ?_ <;> conv => whnf)
    | (refine OblG.mk (by conv => whnf
                          repeat (first | (refine Bx.mk ?_) | (intro h; (try simp [etas, elDef, -List.getD_eq_getElem?_getD] at h); conv => whnf))
                          first | omega | rfl | exact inK_byte _ | (simp only [inK, Int.toNat_natCast, etas, elDef] <;> first | omega | grind) | grind [inK]) ?_ <;> conv => whnf)
    | (refine Gd.mk (fun h => ?_) <;> (try simp [etas, elDef, -List.getD_eq_getElem?_getD] at h) <;> conv => whnf)
    | (refine And.intro ?_ ?_ <;> conv => whnf)
    | exact True.intro
    | (intro; conv => whnf)
  · have hs := hst (by assumption)
    rw [hj, Bool.true_and] at hs
    have e : feedOk c l = false := feedOk_no (i := i + 1) (by rw [hs]; assumption)
    exact leafB hK (by simp [areNewsM, e])
  · have hs := hst (by assumption)
    rw [hj, Bool.true_and] at hs
    exact ⟨i + 1, [], [], ⟨by omega, by rw [hs]; assumption⟩, by omega, by (conv => whnf); (repeat' (first | exact trivial | rfl | (refine nilEq ?_; first | rfl | (simp only [*]; done) | (simp [*]; done) | grind) | apply And.intro | ((first | refine intEq ?_ | refine boolEq ?_ | refine strEq ?_ | refine psEq ?_ | refine nilEq ?_ | refine arrEq ?_); (try simp only [Int.toNat_natCast, etas, elDef]); first | omega | exact (hct (by assumption)).symm))); (all_goals (conv => whnf)); (repeat' (first | exact trivial | rfl | (refine nilEq ?_; first | rfl | (simp only [*]; done) | (simp [*]; done) | grind) | apply And.intro | ((first | refine intEq ?_ | refine boolEq ?_ | refine strEq ?_ | refine psEq ?_ | refine nilEq ?_ | refine arrEq ?_); (try simp only [Int.toNat_natCast, etas, elDef]); first | omega | exact (hct (by assumption)).symm) | ((try simp only [Int.toNat_natCast, etas, elDef]); first | omega | exact (hct (by assumption)).symm))), (by exact sgOk_of (by rfl))⟩
  · rw [List.take_of_length_le (by omega)] at hj
    exact leafB hK (by grind [areNewsM])
theorem s25 : (CtrOK Try.prog 25 (.pure F25) ∧ Callable Try.prog 25) := by
  refine pure_ok (E := E25) (mkE_cons s38 (mkE_nil tab_ok)) mix (O := O25) (F := F25) Try.func25 rfl (by rfl) (by kernel_rfl) (fun args o v h => ?_) (fun args o v h => ?_) (fun args o v h hbd hp K hK => ?_)
  · unfold F25 at h; split at h <;> cases h; first | trivial | (simp [v25, Scalar, Scalar2, Scalar1, stC, ndC, itC, chC, nwC])
  · unfold F25 at h; split at h <;> cases h; exact Nat.le_of_ble_eq_true rfl
  · unfold F25 at h; split at h
    case h_2 => cases h
    cases h
    exact a25 _ _ (by exact hbd) trivial K hK
noncomputable def c12 (s : Sto) (l : List Nws) (K : AV → List AV → Prop) : Prop :=
    K (optS (ffM s l)) []
noncomputable def C12 : List AV → (AV → List AV → Prop) → Prop
  | [.st [.ps .item s_0, .int .i64 s_1], .ps .nws l], K => c12 ⟨s_0, s_1⟩ l K
  | _, _ => False
noncomputable def E12 : Ctx := mkE tab [(16, .gen .ow C16), (24, .pure F24), (25, .pure F25), (26, .gen .ow C26), (27, .gen .ow C27), (28, .pure F28), (29, .gen .ow C29)]
noncomputable def O12 : Nat → List DI := ordL [(9, [.q 0, .q 1, .q 2, .q 3, .q 4, .q 5, .q 6, .q 7, .l 8 [1, 3, 5], .q 9, .l 10 [], .q 11, .l 12 []])]
theorem a12 (s : Sto) (l : List Nws) (hb : BdAs [.st (stC s), .ps .nws l]) (K : AV → List AV → Prop) (h : c12 s l K) : abody E12 O12 .ps Try.f12 (Try.f12.body.getD .skip) [.st (stC s), .ps .nws l] K := by
  simp only [BdAs, BdA, BdL, BdC, MX, ndC, shC, itC, stC, opC, chC, nwC, flC, rqC, rsC, enc, List.cons_append, List.nil_append, and_true, true_and] at hb
  unfold c12 at h
  have hK := h
  have h9 : storeM s = true → smS s ∧ sortedI s.items := fun h => ⟨storeM_sm h, storeM_sorted h⟩
  conv => whnf
  repeat' first
    | (refine Cnd.mk (fun h => ?_) (fun h => ?_) <;> (try simp [etas, elDef, -List.getD_eq_getElem?_getD] at h) <;> conv => whnf)
    | (refine Obl.mk (by first | omega | rfl | exact inK_byte _ | (simp only [inK, Int.toNat_natCast, etas, elDef, m16, o28] <;> first | omega | grind) | grind [inK, m16, o28]) ?_ <;> conv => whnf)
    | (refine OblG.mk (by conv => whnf
                          repeat (first | (refine Bx.mk ?_) | (intro h; (try simp [etas, elDef, -List.getD_eq_getElem?_getD] at h); conv => whnf))
                          first | omega | rfl | exact inK_byte _ | (simp only [inK, Int.toNat_natCast, etas, elDef, m16, o28] <;> first | omega | grind) | grind [inK, m16, o28]) ?_ <;> conv => whnf)
    | (refine Gd.mk (fun h => ?_) <;> (try simp [etas, elDef, -List.getD_eq_getElem?_getD] at h) <;> conv => whnf)
    | (refine And.intro ?_ ?_ <;> conv => whnf)
    | exact True.intro
    | (intro; conv => whnf)
  · have e : ffM s l = none := by grind [ffM]
    exact leafV hK (by rw [e]; (try simp only [etas, elDef, Int.toNat_natCast]); (first | done | rfl | simp [optS, stC]))
  have hf := ff_facts (s := s) (l := l) (by simpa using h)
  refine aloop_intro Nat (fun k => k ≤ l.length ∧ True) (fun k => l.length - k) (fun k => [(26, .int .i64 k)]) (fun k => [(900, .arr .item (followM s (l.take k)).items), (6, .box [.ls 900, .int .i64 (followM s (l.take k)).clock])]) [2, 4] 0 [(900, 24000)] [] ?_ ?_ (by exact sgOk_of (by rfl)) ?_
  · first | (simp; done) | (simp; assumption)
  · (conv => whnf); (repeat' (first | exact trivial | rfl | (refine nilEq ?_; first | rfl | (simp only [*]; done) | (simp [*]; done) | grind) | apply And.intro | ((first | refine intEq ?_ | refine boolEq ?_ | refine strEq ?_ | refine psEq ?_ | refine nilEq ?_ | refine arrEq ?_); (try simp only [Int.toNat_natCast, etas, elDef]); first | done | omega | grind | (simp only [*]; done) | (simp [*]; done)))); (all_goals (conv => whnf)); (repeat' (first | exact trivial | rfl | (refine nilEq ?_; first | rfl | (simp only [*]; done) | (simp [*]; done) | grind) | apply And.intro | ((first | refine intEq ?_ | refine boolEq ?_ | refine strEq ?_ | refine psEq ?_ | refine nilEq ?_ | refine arrEq ?_); (try simp only [Int.toNat_natCast, etas, elDef]); first | done | omega | grind | (simp only [*]; done) | (simp [*]; done)) | ((try simp only [Int.toNat_natCast, etas, elDef]); first | done | omega | grind | (simp only [*]; done) | (simp [*]; done))))
  rintro i ⟨hi, hj⟩
  conv => whnf
  obtain ⟨f1, f2, f3, f4, f5⟩ := hf i
  have hasc := f1.2.2
  have hso := ascI_sorted.1 hasc
  rcases Nat.lt_or_ge i l.length with hil | hil
  · have hft := followM_take (s := s) hil
    have hok : newsM (l.getD i default) (followM s (l.take i)).clock = true := by
      have := feedOk_pre f5 (i + 1)
      rw [feedOk_take hil, Bool.and_eq_true] at this
      rw [f2]; exact this.2
    have hnode : smN (l.getD i default).node := by
      simp only [newsM, changeM, Bool.and_eq_true] at hok
      exact validM_sm hok.1.1.1.2
    have hs1 : (stepN (followM s (l.take i)) (l.getD i default)).clock = (l.getD i default).version := rfl
    have hle := lbI_le (followM s (l.take i)).items (l.getD i default).name
    have hfl : foundI (followM s (l.take i)).items (l.getD i default).name = true → lbI (followM s (l.take i)).items (l.getD i default).name < (followM s (l.take i)).items.length := fun h => by simp only [foundI, Bool.and_eq_true, decide_eq_true_eq] at h; exact h.1
    conv => whnf
    repeat' first
      | (refine Cnd.mk (fun h => ?_) (fun h => ?_) <;> (try simp [etas, elDef, -List.getD_eq_getElem?_getD] at h) <;> conv => whnf)
      | (refine Obl.mk (by first | omega | rfl | exact inK_byte _ | (simp only [inK, Int.toNat_natCast, etas, elDef, m16, o28] <;> first | omega | grind) | grind [inK, m16, o28]) ?_ <;> conv => whnf)
      | (refine OblG.mk (by conv => whnf
                            repeat (first | (refine Bx.mk ?_) | (intro h; (try simp [etas, elDef, -List.getD_eq_getElem?_getD] at h); conv => whnf))
                            first | omega | rfl | exact inK_byte _ | (simp only [inK, Int.toNat_natCast, etas, elDef, m16, o28] <;> first | omega | grind) | grind [inK, m16, o28]) ?_ <;> conv => whnf)
      | (refine Gd.mk (fun h => ?_) <;> (try simp [etas, elDef, -List.getD_eq_getElem?_getD] at h) <;> conv => whnf)
      | (refine And.intro ?_ ?_ <;> conv => whnf)
      | exact True.intro
      | (intro; conv => whnf)
    · have hit : putL (followM s (l.take i)).items ⟨(l.getD i default).name, (l.getD i default).version, (l.getD i default).node⟩ = (followM s (l.take (i + 1))).items := by rw [hft]; simp only [stepN, h, if_true, if_false, Bool.false_eq_true]
      have hck : (l.getD i default).version = (followM s (l.take (i + 1))).clock := by rw [hft, hs1]
      exact ⟨i + 1, [(900, 47000)], [], ⟨by omega, trivial⟩, by omega, by (conv => whnf); (repeat' (first | exact trivial | rfl | (refine nilEq ?_; first | rfl | (simp only [*]; done) | (simp [*]; done) | grind) | apply And.intro | ((first | refine intEq ?_ | refine boolEq ?_ | refine strEq ?_ | refine psEq ?_ | refine nilEq ?_ | refine arrEq ?_); (try simp only [Int.toNat_natCast, etas, elDef]); first | exact hit | exact hck | omega))); (all_goals (conv => whnf)); (repeat' (first | exact trivial | rfl | (refine nilEq ?_; first | rfl | (simp only [*]; done) | (simp [*]; done) | grind) | apply And.intro | ((first | refine intEq ?_ | refine boolEq ?_ | refine strEq ?_ | refine psEq ?_ | refine nilEq ?_ | refine arrEq ?_); (try simp only [Int.toNat_natCast, etas, elDef]); first | exact hit | exact hck | omega) | ((try simp only [Int.toNat_natCast, etas, elDef]); first | exact hit | exact hck | omega))), (by exact sgOk_of (by rfl))⟩
    · have hdl := dropL_found hasc (by assumption : foundI _ _ = true)
      have hgn : (l.getD i default).gone = true := by assumption
      have hit : (followM s (l.take (i + 1))).items = (followM s (l.take i)).items.eraseIdx (lbI (followM s (l.take i)).items (l.getD i default).name) := by rw [hft, ← hdl]; simp only [stepN, hgn, if_true]
      have hck : (l.getD i default).version = (followM s (l.take (i + 1))).clock := by rw [hft, hs1]
      exact ⟨i + 1, [(900, 63000)], [], ⟨by omega, trivial⟩, by omega, by (conv => whnf); (repeat' (first | exact trivial | rfl | (refine nilEq ?_; first | rfl | (simp only [*]; done) | (simp [*]; done) | grind) | apply And.intro | ((first | refine intEq ?_ | refine boolEq ?_ | refine strEq ?_ | refine psEq ?_ | refine nilEq ?_ | refine arrEq ?_); (try simp only [Int.toNat_natCast, etas, elDef]); first | exact hit.symm | exact hck | omega))); (all_goals (conv => whnf)); (repeat' (first | exact trivial | rfl | (refine nilEq ?_; first | rfl | (simp only [*]; done) | (simp [*]; done) | grind) | apply And.intro | ((first | refine intEq ?_ | refine boolEq ?_ | refine strEq ?_ | refine psEq ?_ | refine nilEq ?_ | refine arrEq ?_); (try simp only [Int.toNat_natCast, etas, elDef]); first | exact hit.symm | exact hck | omega) | ((try simp only [Int.toNat_natCast, etas, elDef]); first | exact hit.symm | exact hck | omega))), (by exact sgOk_of (by rfl))⟩
    · have hdl : dropL (followM s (l.take i)).items (l.getD i default).name = (followM s (l.take i)).items := dropL_new hasc (by assumption)
      have hgn : (l.getD i default).gone = true := by assumption
      have hit : (followM s (l.take (i + 1))).items = (followM s (l.take i)).items := by rw [hft]; simp only [stepN, hgn, if_true]; exact hdl
      have hck : (l.getD i default).version = (followM s (l.take (i + 1))).clock := by rw [hft, hs1]
      exact ⟨i + 1, [], [], ⟨by omega, trivial⟩, by omega, by (conv => whnf); (repeat' (first | exact trivial | rfl | (refine nilEq ?_; first | rfl | (simp only [*]; done) | (simp [*]; done) | grind) | apply And.intro | ((first | refine intEq ?_ | refine boolEq ?_ | refine strEq ?_ | refine psEq ?_ | refine nilEq ?_ | refine arrEq ?_); (try simp only [Int.toNat_natCast, etas, elDef]); first | exact hit.symm | exact hck | omega))); (all_goals (conv => whnf)); (repeat' (first | exact trivial | rfl | (refine nilEq ?_; first | rfl | (simp only [*]; done) | (simp [*]; done) | grind) | apply And.intro | ((first | refine intEq ?_ | refine boolEq ?_ | refine strEq ?_ | refine psEq ?_ | refine nilEq ?_ | refine arrEq ?_); (try simp only [Int.toNat_natCast, etas, elDef]); first | exact hit.symm | exact hck | omega) | ((try simp only [Int.toNat_natCast, etas, elDef]); first | exact hit.symm | exact hck | omega))), (by exact sgOk_of (by rfl))⟩
    · exfalso; omega
    · exfalso; omega
  · conv => whnf
    repeat' first
      | (refine Cnd.mk (fun h => ?_) (fun h => ?_) <;> (try simp [etas, elDef, -List.getD_eq_getElem?_getD] at h) <;> conv => whnf)
      | (refine Obl.mk (by first | omega | rfl | exact inK_byte _ | (simp only [inK, Int.toNat_natCast, etas, elDef, m16, o28] <;> first | omega | grind) | grind [inK, m16, o28]) ?_ <;> conv => whnf)
      | (refine OblG.mk (by conv => whnf
                            repeat (first | (refine Bx.mk ?_) | (intro h; (try simp [etas, elDef, -List.getD_eq_getElem?_getD] at h); conv => whnf))
                            first | omega | rfl | exact inK_byte _ | (simp only [inK, Int.toNat_natCast, etas, elDef, m16, o28] <;> first | omega | grind) | grind [inK, m16, o28]) ?_ <;> conv => whnf)
      | (refine Gd.mk (fun h => ?_) <;> (try simp [etas, elDef, -List.getD_eq_getElem?_getD] at h) <;> conv => whnf)
      | (refine And.intro ?_ ?_ <;> conv => whnf)
      | exact True.intro
      | (intro; conv => whnf)
    · exfalso; omega
    · exfalso; omega
    · exfalso; omega
    · have hall : l.take i = l := List.take_of_length_le (by omega)
      rw [hall] at h
      have e : ffM s l = none := by unfold ffM; rw [if_pos (by simpa using (by assumption : storeM s = true ∧ areNewsM l s.clock = true)), if_neg (by omega)]
      exact leafV hK (by rw [e]; (try simp only [etas, elDef, Int.toNat_natCast]); (first | done | rfl | simp [optS, stC]))
    · have hall : l.take i = l := List.take_of_length_le (by omega)
      rw [hall] at h
      have e : ffM s l = some (followM s l) := by unfold ffM; rw [if_pos (by simpa using (by assumption : storeM s = true ∧ areNewsM l s.clock = true)), if_pos (by omega)]
      exact leafV hK (by rw [e, hall]; (try simp only [etas, elDef, Int.toNat_natCast]); (first | done | rfl | simp [optS, stC]))
theorem s12 : (CtrOK Try.prog 12 (.gen .ps C12) ∧ Callable Try.prog 12) := by
  refine gen_ok (E := E12) (mkE_cons s16 (mkE_cons s24 (mkE_cons s25 (mkE_cons s26 (mkE_cons s27 (mkE_cons s28 (mkE_cons s29 (mkE_nil tab_ok)))))))) mix (O := O12) (C := C12) (own := .ps) Try.func12 rfl (by rfl) (by kernel_rfl) (fun args K h hbd => ?_)
  unfold C12 at h; split at h
  case h_2 => exact h.elim
  exact ⟨Nat.le_of_ble_eq_true rfl, a12 ⟨_, _⟩ _ (by exact hbd) _ h⟩
noncomputable def v19 (l : List Chg) (k : Int) : AV := .bool (lastM l k.toNat)
noncomputable def o19 (l : List Chg) (k : Int) : Prop := 0 ≤ k ∧ k < l.length ∧ l.length ≤ 1000000
noncomputable def F19 : List AV → QR
  | [.ps .chg l, .int .i64 k] => some (some (o19 l k), v19 l k)
  | _ => none
noncomputable def E19 : Ctx := mkE tab []
noncomputable def O19 : Nat → List DI := ordL [(4, [.q 0, .q 1, .q 2, .q 3, .q 4, .q 5, .q 6, .q 7, .q 8, .q 9, .q 10])]
theorem a19 (l : List Chg) (k : Int) (hb : BdAs [.ps .chg l, .int .i64 k]) (ho : o19 l k) (K : AV → List AV → Prop) (hK : K (v19 l k) []) : abody E19 O19 .ps Try.f19 (Try.f19.body.getD .skip) [.ps .chg l, .int .i64 k] K := by
  simp only [BdAs, BdA, BdL, BdC, MX, ndC, shC, itC, stC, opC, chC, nwC, flC, rqC, rsC, enc, List.cons_append, List.nil_append, and_true, true_and] at hb
  unfold o19 at ho
  unfold v19 at hK
  have hl := lastM_iff l k.toNat
  conv => whnf
  repeat' first
    | (refine Cnd.mk (fun h => ?_) (fun h => ?_) <;> (try simp [etas, elDef, -List.getD_eq_getElem?_getD] at h) <;> conv => whnf)
    | (refine Obl.mk (by first | omega | rfl | exact inK_byte _ | (simp only [inK, Int.toNat_natCast, etas, elDef] <;> first | omega | grind) | grind [inK]) ?_ <;> conv => whnf)
    | (refine OblG.mk (by conv => whnf
                          repeat (first | (refine Bx.mk ?_) | (intro h; (try simp [etas, elDef, -List.getD_eq_getElem?_getD] at h); conv => whnf))
                          first | omega | rfl | exact inK_byte _ | (simp only [inK, Int.toNat_natCast, etas, elDef] <;> first | omega | grind) | grind [inK]) ?_ <;> conv => whnf)
    | (refine Gd.mk (fun h => ?_) <;> (try simp [etas, elDef, -List.getD_eq_getElem?_getD] at h) <;> conv => whnf)
    | (refine And.intro ?_ ?_ <;> conv => whnf)
    | exact True.intro
    | (intro; conv => whnf)
  refine aloop_intro Nat (fun j => k.toNat + 1 ≤ j ∧ j ≤ l.length ∧ ∀ i, k.toNat < i → i < j → (l.getD i default).name ≠ (l.getD k.toNat default).name) (fun j => l.length - j) (fun j => [(5, .int .i64 j)]) (fun _ => []) [] (k.toNat + 1) [] [] ⟨Nat.le_refl _, by omega, fun i h1 h2 => by omega⟩ ?_ (by exact sgOk_of (by rfl)) ?_
  · (conv => whnf); (repeat' (first | exact trivial | rfl | (refine nilEq ?_; first | rfl | (simp only [*]; done) | (simp [*]; done) | grind) | apply And.intro | ((first | refine intEq ?_ | refine boolEq ?_ | refine strEq ?_ | refine psEq ?_ | refine nilEq ?_ | refine arrEq ?_); (try simp only [Int.toNat_natCast, etas, elDef]); first | done | omega | grind | (simp only [*]; done) | (simp [*]; done)))); (all_goals (conv => whnf)); (repeat' (first | exact trivial | rfl | (refine nilEq ?_; first | rfl | (simp only [*]; done) | (simp [*]; done) | grind) | apply And.intro | ((first | refine intEq ?_ | refine boolEq ?_ | refine strEq ?_ | refine psEq ?_ | refine nilEq ?_ | refine arrEq ?_); (try simp only [Int.toNat_natCast, etas, elDef]); first | done | omega | grind | (simp only [*]; done) | (simp [*]; done)) | ((try simp only [Int.toNat_natCast, etas, elDef]); first | done | omega | grind | (simp only [*]; done) | (simp [*]; done))))
  rintro j ⟨h1, h2, h3⟩
  conv => whnf
  repeat' first
    | (refine Cnd.mk (fun h => ?_) (fun h => ?_) <;> (try simp [etas, elDef, -List.getD_eq_getElem?_getD] at h) <;> conv => whnf)
    | (refine Obl.mk (by first | omega | rfl | exact inK_byte _ | (simp only [inK, Int.toNat_natCast, etas, elDef] <;> first | omega | grind) | grind [inK]) ?_ <;> conv => whnf)
    | (refine OblG.mk (by conv => whnf
                          repeat (first | (refine Bx.mk ?_) | (intro h; (try simp [etas, elDef, -List.getD_eq_getElem?_getD] at h); conv => whnf))
                          first | omega | rfl | exact inK_byte _ | (simp only [inK, Int.toNat_natCast, etas, elDef] <;> first | omega | grind) | grind [inK]) ?_ <;> conv => whnf)
    | (refine Gd.mk (fun h => ?_) <;> (try simp [etas, elDef, -List.getD_eq_getElem?_getD] at h) <;> conv => whnf)
    | (refine And.intro ?_ ?_ <;> conv => whnf)
    | exact True.intro
    | (intro; conv => whnf)
  · have e : lastM l k.toNat = false := by
      rw [Bool.eq_false_iff]; intro e; exact (hl.1 e) j (by omega) (by omega) (of_decide_eq_true h)
    exact leafB hK e
  · exact ⟨j + 1, [], [], ⟨by omega, by omega, fun i hi1 hi2 => (Nat.lt_or_eq_of_le (Nat.le_of_lt_succ hi2)).elim (h3 i hi1) (fun e => e ▸ of_decide_eq_false h)⟩, by omega, by (conv => whnf); (repeat' (first | exact trivial | rfl | (refine nilEq ?_; first | rfl | (simp only [*]; done) | (simp [*]; done) | grind) | apply And.intro | ((first | refine intEq ?_ | refine boolEq ?_ | refine strEq ?_ | refine psEq ?_ | refine nilEq ?_ | refine arrEq ?_); (try simp only [Int.toNat_natCast, etas, elDef]); first | done | omega | grind | (simp only [*]; done) | (simp [*]; done)))); (all_goals (conv => whnf)); (repeat' (first | exact trivial | rfl | (refine nilEq ?_; first | rfl | (simp only [*]; done) | (simp [*]; done) | grind) | apply And.intro | ((first | refine intEq ?_ | refine boolEq ?_ | refine strEq ?_ | refine psEq ?_ | refine nilEq ?_ | refine arrEq ?_); (try simp only [Int.toNat_natCast, etas, elDef]); first | done | omega | grind | (simp only [*]; done) | (simp [*]; done)) | ((try simp only [Int.toNat_natCast, etas, elDef]); first | done | omega | grind | (simp only [*]; done) | (simp [*]; done)))), (by exact sgOk_of (by rfl))⟩
  · exact leafB hK (hl.2 fun i hi1 hi2 => h3 i hi1 (by omega))
theorem s19 : (CtrOK Try.prog 19 (.pure F19) ∧ Callable Try.prog 19) := by
  refine pure_ok (E := E19) (mkE_nil tab_ok) mix (O := O19) (F := F19) Try.func19 rfl (by rfl) (by kernel_rfl) (fun args o v h => ?_) (fun args o v h => ?_) (fun args o v h hbd hp K hK => ?_)
  · unfold F19 at h; split at h <;> cases h; first | trivial | (simp [v19, Scalar, Scalar2, Scalar1, stC, ndC, itC, chC, nwC])
  · unfold F19 at h; split at h <;> cases h; exact Nat.le_of_ble_eq_true rfl
  · unfold F19 at h; split at h
    case h_2 => cases h
    cases h
    exact a19 _ _ (by exact hbd) (hp _ rfl) K hK
noncomputable def c9 (l : List Chg) (v : Int) (K : AV → List AV → Prop) : Prop :=
    K (.own .nws (sinceV l v)) []
noncomputable def C9 : List AV → (AV → List AV → Prop) → Prop
  | [.ps .chg l, .int .i64 v], K => c9 l v K
  | _, _ => False
noncomputable def E9 : Ctx := mkE tab [(17, .gen .ps C17), (18, .pure F18), (19, .pure F19), (20, .gen .ps C20)]
noncomputable def O9 : Nat → List DI := ordL [(8, [.q 0, .q 1, .q 2, .q 3, .q 4, .q 5, .q 6, .q 7, .q 8, .q 9, .q 10, .q 11, .q 12, .q 13, .q 14, .q 15, .q 17, .q 18, .l 16 [3, 5, 8, 10], .q 19, .l 20 [], .l 21 [], .q 22])]
theorem a9 (l : List Chg) (v : Int) (hb : BdAs [.ps .chg l, .int .i64 v]) (K : AV → List AV → Prop) (h : c9 l v K) : abody E9 O9 .ow Try.f9 (Try.f9.body.getD .skip) [.ps .chg l, .int .i64 v] K := by
  simp only [BdAs, BdA, BdL, BdC, MX, ndC, shC, itC, stC, opC, chC, nwC, flC, rqC, rsC, enc, List.cons_append, List.nil_append, and_true, true_and] at hb
  unfold c9 at h
  have hK := h
  conv => whnf
  repeat' first
    | (refine Cnd.mk (fun h => ?_) (fun h => ?_) <;> (try simp [etas, elDef, -List.getD_eq_getElem?_getD] at h) <;> conv => whnf)
    | (refine Obl.mk (by first | omega | rfl | exact inK_byte _ | (simp only [inK, Int.toNat_natCast, etas, elDef, o19, m20] <;> first | omega | grind) | grind [inK, o19, m20]) ?_ <;> conv => whnf)
    | (refine OblG.mk (by conv => whnf
                          repeat (first | (refine Bx.mk ?_) | (intro h; (try simp [etas, elDef, -List.getD_eq_getElem?_getD] at h); conv => whnf))
                          first | omega | rfl | exact inK_byte _ | (simp only [inK, Int.toNat_natCast, etas, elDef, o19, m20] <;> first | omega | grind) | grind [inK, o19, m20]) ?_ <;> conv => whnf)
    | (refine Gd.mk (fun h => ?_) <;> (try simp [etas, elDef, -List.getD_eq_getElem?_getD] at h) <;> conv => whnf)
    | (refine And.intro ?_ ?_ <;> conv => whnf)
    | exact True.intro
    | (intro; conv => whnf)
  · have e : sinceV l v = [] := by grind [sinceV]
    exact leafV hK (by rw [e])
  have hlog : (logM l).isSome = true ∧ 0 ≤ v ∧ v ≤ l.length := by grind
  have e : sinceV l v = sinceF l v.toNat l.length := by unfold sinceV; rw [if_pos hlog]
  rw [e] at hK
  have h20 := log_len hlog.1
  refine aloop_intro Nat (fun k => v.toNat ≤ k ∧ k ≤ l.length) (fun k => l.length - k) (fun k => [(6, .int .i64 k), (5, .ls 900)]) (fun k => [(900, .arr .nws (sinceF l v.toNat k))]) [] v.toNat [(900, 7)] [] (by omega) ?_ (by exact sgOk_of (by rfl)) ?_
  · (conv => whnf); (repeat' (first | exact trivial | rfl | (refine nilEq ?_; first | rfl | (simp only [*]; done) | (simp [*]; done) | grind) | apply And.intro | ((first | refine intEq ?_ | refine boolEq ?_ | refine strEq ?_ | refine psEq ?_ | refine nilEq ?_ | refine arrEq ?_); (try simp only [Int.toNat_natCast, etas, elDef]); first | done | omega | (rw [sinceF_zero]) | grind))); (all_goals (conv => whnf)); (repeat' (first | exact trivial | rfl | (refine nilEq ?_; first | rfl | (simp only [*]; done) | (simp [*]; done) | grind) | apply And.intro | ((first | refine intEq ?_ | refine boolEq ?_ | refine strEq ?_ | refine psEq ?_ | refine nilEq ?_ | refine arrEq ?_); (try simp only [Int.toNat_natCast, etas, elDef]); first | done | omega | (rw [sinceF_zero]) | grind) | ((try simp only [Int.toNat_natCast, etas, elDef]); first | done | omega | (rw [sinceF_zero]) | grind)))
  rintro i ⟨hi1, hi2⟩
  have hsu := sinceF_succ (l := l) (v := v.toNat) (k := i) hi1
  have hsl := sinceF_len l v.toNat i
  have hsl2 : (sinceF l v.toNat i).length ≤ 20 := by omega
  have hsm := fun h => log_node hlog.1 (i := i) h
  have hl1 : (sinceF l v.toNat i).length + [nwAt l i].length ≤ 1073741824 := by simp; omega
  rcases Nat.lt_or_ge i l.length with hil | hil
  · have hsm := hsm hil
    conv => whnf
    repeat' first
      | (refine Cnd.mk (fun h => ?_) (fun h => ?_) <;> (try simp [etas, elDef, -List.getD_eq_getElem?_getD] at h) <;> conv => whnf)
      | (refine Obl.mk (by first | omega | rfl | exact inK_byte _ | (simp only [inK, Int.toNat_natCast, etas, elDef, o19, m20] <;> first | omega | grind) | grind [inK, o19, m20]) ?_ <;> conv => whnf)
      | (refine OblG.mk (by conv => whnf
                            repeat (first | (refine Bx.mk ?_) | (intro h; (try simp [etas, elDef, -List.getD_eq_getElem?_getD] at h); conv => whnf))
                            first | omega | rfl | exact inK_byte _ | (simp only [inK, Int.toNat_natCast, etas, elDef, o19, m20] <;> first | omega | grind) | grind [inK, o19, m20]) ?_ <;> conv => whnf)
      | (refine Gd.mk (fun h => ?_) <;> (try simp [etas, elDef, -List.getD_eq_getElem?_getD] at h) <;> conv => whnf)
      | (refine And.intro ?_ ?_ <;> conv => whnf)
      | exact True.intro
      | (intro; conv => whnf)
    · have e2 : sinceF l v.toNat (i + 1) = sinceF l v.toNat i ++ [nwAt l i] := by rw [hsu, if_pos h]
      exact ⟨i + 1, [(900, 49)], [], ⟨by omega, by omega⟩, by omega, by (conv => whnf); (repeat' (first | exact trivial | rfl | (refine nilEq ?_; first | rfl | (simp only [*]; done) | (simp [*]; done) | grind) | apply And.intro | ((first | refine intEq ?_ | refine boolEq ?_ | refine strEq ?_ | refine psEq ?_ | refine nilEq ?_ | refine arrEq ?_); (try simp only [Int.toNat_natCast, etas, elDef]); first | omega | (rw [e2]; rfl) | exact e2.symm))); (all_goals (conv => whnf)); (repeat' (first | exact trivial | rfl | (refine nilEq ?_; first | rfl | (simp only [*]; done) | (simp [*]; done) | grind) | apply And.intro | ((first | refine intEq ?_ | refine boolEq ?_ | refine strEq ?_ | refine psEq ?_ | refine nilEq ?_ | refine arrEq ?_); (try simp only [Int.toNat_natCast, etas, elDef]); first | omega | (rw [e2]; rfl) | exact e2.symm) | ((try simp only [Int.toNat_natCast, etas, elDef]); first | omega | (rw [e2]; rfl) | exact e2.symm))), (by exact sgOk_of (by rfl))⟩
    · have e2 : sinceF l v.toNat (i + 1) = sinceF l v.toNat i := by rw [hsu, if_neg (by rw [h]; simp), List.append_nil]
      exact ⟨i + 1, [], [], ⟨by omega, by omega⟩, by omega, by (conv => whnf); (repeat' (first | exact trivial | rfl | (refine nilEq ?_; first | rfl | (simp only [*]; done) | (simp [*]; done) | grind) | apply And.intro | ((first | refine intEq ?_ | refine boolEq ?_ | refine strEq ?_ | refine psEq ?_ | refine nilEq ?_ | refine arrEq ?_); (try simp only [Int.toNat_natCast, etas, elDef]); first | omega | exact e2.symm))); (all_goals (conv => whnf)); (repeat' (first | exact trivial | rfl | (refine nilEq ?_; first | rfl | (simp only [*]; done) | (simp [*]; done) | grind) | apply And.intro | ((first | refine intEq ?_ | refine boolEq ?_ | refine strEq ?_ | refine psEq ?_ | refine nilEq ?_ | refine arrEq ?_); (try simp only [Int.toNat_natCast, etas, elDef]); first | omega | exact e2.symm) | ((try simp only [Int.toNat_natCast, etas, elDef]); first | omega | exact e2.symm))), (by exact sgOk_of (by rfl))⟩
    · exfalso; omega
  · conv => whnf
    repeat' first
      | (refine Cnd.mk (fun h => ?_) (fun h => ?_) <;> (try simp [etas, elDef, -List.getD_eq_getElem?_getD] at h) <;> conv => whnf)
      | (refine Obl.mk (by first | omega | rfl | exact inK_byte _ | (simp only [inK, Int.toNat_natCast, etas, elDef, o19, m20] <;> first | omega | grind) | grind [inK, o19, m20]) ?_ <;> conv => whnf)
      | (refine OblG.mk (by conv => whnf
                            repeat (first | (refine Bx.mk ?_) | (intro h; (try simp [etas, elDef, -List.getD_eq_getElem?_getD] at h); conv => whnf))
                            first | omega | rfl | exact inK_byte _ | (simp only [inK, Int.toNat_natCast, etas, elDef, o19, m20] <;> first | omega | grind) | grind [inK, o19, m20]) ?_ <;> conv => whnf)
      | (refine Gd.mk (fun h => ?_) <;> (try simp [etas, elDef, -List.getD_eq_getElem?_getD] at h) <;> conv => whnf)
      | (refine And.intro ?_ ?_ <;> conv => whnf)
      | exact True.intro
      | (intro; conv => whnf)
    all_goals first | (exfalso; omega) | skip
    have ei : i = l.length := by omega
    exact leafV hK (by rw [ei])
theorem s9 : (CtrOK Try.prog 9 (.gen .ow C9) ∧ Callable Try.prog 9) := by
  refine gen_ok (E := E9) (mkE_cons s17 (mkE_cons s18 (mkE_cons s19 (mkE_cons s20 (mkE_nil tab_ok))))) mix (O := O9) (C := C9) (own := .ow) Try.func9 rfl (by rfl) (by kernel_rfl) (fun args K h hbd => ?_)
  unfold C9 at h; split at h
  case h_2 => exact h.elim
  exact ⟨Nat.le_of_ble_eq_true rfl, a9 _ _ (by exact hbd) _ h⟩
end Go.Rs

