import Derived.Test.YtpiclhdjglelhaaDoorCQ
import Derived.Test.YtpiclhdjglelhaaDoorCP
import Derived.Test.YtpiclhdjglelhaaDoorMD
set_option linter.all false
namespace Go.Rs
open Go.Proofs
set_option maxRecDepth 100000
set_option linter.unusedVariables false
set_option linter.unusedSimpArgs false
theorem shp_lvl {lvl : Int} (h1 : 1 ≤ lvl) (h2 : lvl ≤ 5) (x : Sh) : shpM (6 - lvl).toNat x = (topS x && x.kids.all (shpM (5 - lvl).toNat)) := by
  have : (6 - lvl).toNat = (5 - lvl).toNat + 1 := by omega
  rw [this, shpM]
theorem shp_nxt (lvl : Int) (x : Sh) : shpM (6 - (lvl + 1)).toNat x = shpM (5 - lvl).toNat x := by
  congr 1; omega
noncomputable def v66 (x : Sh) (lvl : Int) : AV := .bool (shpM (6 - lvl).toNat x)
noncomputable def o66 (x : Sh) (lvl : Int) : Prop := 1 ≤ lvl ∧ lvl ≤ 6
noncomputable def m66 (x : Sh) (lvl : Int) : Nat := SizeOf.sizeOf x
noncomputable def F66 : List AV → QR
  | [.st [.int .i64 x_0, .ps .str x_1, .ps .bool x_2, .ps .shape x_3], .int .i64 lvl] => some (some (o66 ⟨x_0, x_1, x_2, x_3⟩ lvl), v66 ⟨x_0, x_1, x_2, x_3⟩ lvl)
  | _ => none
noncomputable def Fk66 (k : Nat) : List AV → QR
  | [.st [.int .i64 x_0, .ps .str x_1, .ps .bool x_2, .ps .shape x_3], .int .i64 lvl] => some (some (m66 ⟨x_0, x_1, x_2, x_3⟩ lvl < k ∧ o66 ⟨x_0, x_1, x_2, x_3⟩ lvl), v66 ⟨x_0, x_1, x_2, x_3⟩ lvl)
  | _ => none
noncomputable def E66 (k : Nat) : Ctx := mkE tab [(66, .pure (Fk66 k)), (95, .pure F95)]
noncomputable def O66 : Nat → List DI := ordL []
theorem a66 (k : Nat) (x : Sh) (lvl : Int) (hm : m66 x lvl < k + 1) (hb : BdAs [.st (shC x), .int .i64 lvl]) (ho : o66 x lvl) (K : AV → List AV → Prop) (hK : K (v66 x lvl) []) : abody (E66 k) O66 .ps Tryd.f66 (Tryd.f66.body.getD .skip) [.st (shC x), .int .i64 lvl] K := by
  simp only [BdAs, BdA, BdL, BdC, MX, ndC, shC, itC, stC, opC, chC, nwC, flC, rqC, rsC, enc, List.cons_append, List.nil_append, and_true, true_and] at hb
  unfold o66 at ho
  unfold v66 at hK
  unfold m66 at hm
  have hkid := fun j (h : j < x.kids.length) => kidS_size h
  have hn := shp_nxt lvl
  have h6 : 5 < lvl → shpM (6 - lvl).toNat x = false := fun h => by
    have : (6 - lvl).toNat = 0 := by omega
    rw [this]; rfl
  have he := fun h => shp_lvl ho.1 h x
  have ht : topS x = (decide (0 ≤ x.kind) && decide (x.kind ≤ 4) && areNamesM x.names && (decide (x.names.length = 0) || decide (x.kind = 4)) && decide (x.needs.length = x.names.length) && decide (x.kids.length = x.names.length)) := rfl
  conv => whnf
  repeat' first
    | (refine Cnd.mk (fun h => ?_) (fun h => ?_) <;> (try simp [nd_eta, sh_eta, it_eta, sto_eta, op_eta, ch_eta, nw_eta, fl_eta, rq_eta, rs_eta, elDef, -List.getD_eq_getElem?_getD] at h) <;> conv => whnf)
    | (refine Obl.mk (by first | omega | rfl | exact inK_byte _ | (simp only [inK, Int.toNat_natCast, nd_eta, sh_eta, it_eta, sto_eta, op_eta, ch_eta, nw_eta, fl_eta, rq_eta, rs_eta, elDef, m66, o66, m66] <;> first | omega | grind) | grind [inK, m66, o66, m66]) ?_ <;> conv => whnf)
    | (refine OblG.mk (by conv => whnf
                          repeat (first | (refine Bx.mk ?_) | (intro h; (try simp [nd_eta, sh_eta, it_eta, sto_eta, op_eta, ch_eta, nw_eta, fl_eta, rq_eta, rs_eta, elDef, -List.getD_eq_getElem?_getD] at h); conv => whnf))
                          first | omega | rfl | exact inK_byte _ | (simp only [inK, Int.toNat_natCast, nd_eta, sh_eta, it_eta, sto_eta, op_eta, ch_eta, nw_eta, fl_eta, rq_eta, rs_eta, elDef, m66, o66, m66] <;> first | omega | grind) | grind [inK, m66, o66, m66]) ?_ <;> conv => whnf)
    | (refine Gd.mk (fun h => ?_) <;> (try simp [nd_eta, sh_eta, it_eta, sto_eta, op_eta, ch_eta, nw_eta, fl_eta, rq_eta, rs_eta, elDef, -List.getD_eq_getElem?_getD] at h) <;> conv => whnf)
    | (refine And.intro ?_ ?_ <;> conv => whnf)
    | exact True.intro
    | (intro; conv => whnf)
  · refine leafB hK ?_
    rcases Int.lt_or_le 5 lvl with h5 | h5
    · exact h6 h5
    · rw [he h5, ht]; simp; omega
  · rename_i h0
    refine leafB hK ?_
    rw [he h0.1.1, ht]
    rcases h with h | h
    · rw [h]; simp
    · have h1 : ¬ x.names.length = 0 := by omega
      simp [h1, h.2]
  · rename_i h0 h1
    refine leafB hK ?_
    rw [he h0.1.1, ht]
    rcases h with h | h
    · have h2 : ¬ x.needs.length = x.names.length := by omega
      simp [h2]
    · have h2 : ¬ x.kids.length = x.names.length := by omega
      simp [h2]
  · rename_i h0 h1
    have htt : topS x = true := by
      rw [ht]
      have h2 : x.needs.length = x.names.length := by omega
      have h3 : x.kids.length = x.names.length := by omega
      have h4 : x.names.length = 0 ∨ x.kind = 4 := by
        rcases Nat.eq_zero_or_pos x.names.length with h | h
        · exact .inl h
        · exact .inr (h1.2 h)
      simp only [h0.1.2, h0.2, h1.1, h2, h3, decide_true, Bool.and_true, Bool.true_and]
      rcases h4 with h4 | h4 <;> simp [h4]
    rw [he h0.1.1, htt, Bool.true_and] at hK
    refine aloop_intro Nat (fun k => k ≤ x.kids.length ∧ ∀ j, j < k → shpM (5 - lvl).toNat (x.kids.getD j default) = true) (fun k => x.kids.length - k) (fun k => [(53, .int .i64 k)]) (fun k => []) [2] 0 [] [] ?_ ?_ (by exact sgOk_of (by rfl)) ?_
    · first | (simp; done) | (simp; assumption)
    · (conv => whnf); (repeat' (first | exact trivial | rfl | (refine nilEq ?_; first | rfl | (simp only [*]; done) | (simp [*]; done) | grind) | apply And.intro | ((first | refine intEq ?_ | refine boolEq ?_ | refine strEq ?_ | refine psEq ?_ | refine nilEq ?_ | refine arrEq ?_); (try simp only [Int.toNat_natCast, nd_eta, sh_eta, it_eta, sto_eta, op_eta, ch_eta, nw_eta, fl_eta, rq_eta, rs_eta, elDef]); first | done | omega | grind | (simp only [*]; done) | (simp [*]; done)))); (all_goals (conv => whnf)); (repeat' (first | exact trivial | rfl | (refine nilEq ?_; first | rfl | (simp only [*]; done) | (simp [*]; done) | grind) | apply And.intro | ((first | refine intEq ?_ | refine boolEq ?_ | refine strEq ?_ | refine psEq ?_ | refine nilEq ?_ | refine arrEq ?_); (try simp only [Int.toNat_natCast, nd_eta, sh_eta, it_eta, sto_eta, op_eta, ch_eta, nw_eta, fl_eta, rq_eta, rs_eta, elDef]); first | done | omega | grind | (simp only [*]; done) | (simp [*]; done)) | ((try simp only [Int.toNat_natCast, nd_eta, sh_eta, it_eta, sto_eta, op_eta, ch_eta, nw_eta, fl_eta, rq_eta, rs_eta, elDef]); first | done | omega | grind | (simp only [*]; done) | (simp [*]; done))))
    rintro i ⟨hi, hj⟩
    conv => whnf
    have hks := hkid i
    repeat' first
      | (refine Cnd.mk (fun h => ?_) (fun h => ?_) <;> (try simp [nd_eta, sh_eta, it_eta, sto_eta, op_eta, ch_eta, nw_eta, fl_eta, rq_eta, rs_eta, elDef, -List.getD_eq_getElem?_getD] at h) <;> conv => whnf)
      | (refine Obl.mk (by first | omega | rfl | exact inK_byte _ | (simp only [inK, Int.toNat_natCast, nd_eta, sh_eta, it_eta, sto_eta, op_eta, ch_eta, nw_eta, fl_eta, rq_eta, rs_eta, elDef, m66, o66, m66] <;> first | omega | grind) | grind [inK, m66, o66, m66]) ?_ <;> conv => whnf)
      | (refine OblG.mk (by conv => whnf
                            repeat (first | (refine Bx.mk ?_) | (intro h; (try simp [nd_eta, sh_eta, it_eta, sto_eta, op_eta, ch_eta, nw_eta, fl_eta, rq_eta, rs_eta, elDef, -List.getD_eq_getElem?_getD] at h); conv => whnf))
                            first | omega | rfl | exact inK_byte _ | (simp only [inK, Int.toNat_natCast, nd_eta, sh_eta, it_eta, sto_eta, op_eta, ch_eta, nw_eta, fl_eta, rq_eta, rs_eta, elDef, m66, o66, m66] <;> first | omega | grind) | grind [inK, m66, o66, m66]) ?_ <;> conv => whnf)
      | (refine Gd.mk (fun h => ?_) <;> (try simp [nd_eta, sh_eta, it_eta, sto_eta, op_eta, ch_eta, nw_eta, fl_eta, rq_eta, rs_eta, elDef, -List.getD_eq_getElem?_getD] at h) <;> conv => whnf)
      | (refine And.intro ?_ ?_ <;> conv => whnf)
      | exact True.intro
      | (intro; conv => whnf)
    · rw [hn] at h
      exact leafB hK (allS_no (j := i) (by omega) h)
    · rw [hn] at h
      exact ⟨i + 1, [], [], ⟨by omega, fun j hj2 => by rcases Nat.lt_succ_iff_lt_or_eq.1 hj2 with h9 | h9; exact hj j h9; rw [h9]; exact h⟩, by omega, by (conv => whnf); (repeat' (first | exact trivial | rfl | (refine nilEq ?_; first | rfl | (simp only [*]; done) | (simp [*]; done) | grind) | apply And.intro | ((first | refine intEq ?_ | refine boolEq ?_ | refine strEq ?_ | refine psEq ?_ | refine nilEq ?_ | refine arrEq ?_); (try simp only [Int.toNat_natCast, nd_eta, sh_eta, it_eta, sto_eta, op_eta, ch_eta, nw_eta, fl_eta, rq_eta, rs_eta, elDef]); first | done | omega | grind | (simp only [*]; done) | (simp [*]; done)))); (all_goals (conv => whnf)); (repeat' (first | exact trivial | rfl | (refine nilEq ?_; first | rfl | (simp only [*]; done) | (simp [*]; done) | grind) | apply And.intro | ((first | refine intEq ?_ | refine boolEq ?_ | refine strEq ?_ | refine psEq ?_ | refine nilEq ?_ | refine arrEq ?_); (try simp only [Int.toNat_natCast, nd_eta, sh_eta, it_eta, sto_eta, op_eta, ch_eta, nw_eta, fl_eta, rq_eta, rs_eta, elDef]); first | done | omega | grind | (simp only [*]; done) | (simp [*]; done)) | ((try simp only [Int.toNat_natCast, nd_eta, sh_eta, it_eta, sto_eta, op_eta, ch_eta, nw_eta, fl_eta, rq_eta, rs_eta, elDef]); first | done | omega | grind | (simp only [*]; done) | (simp [*]; done)))), (by exact sgOk_of (by rfl))⟩
    · exact leafB hK ((allS_iff _ _).2 fun j hj2 => hj j (by omega))
theorem r66 : ∀ k, (CtrOK Tryd.prog 66 (.pure (Fk66 k)) ∧ Callable Tryd.prog 66) := by
  intro k
  induction k with
  | zero =>
    exact ⟨⟨fun args o v h => by unfold Fk66 at h; split at h <;> cases h; first | trivial | (simp [v66, Scalar, Scalar2, Scalar1, stC, ndC, itC, chC, nwC]), fun args K h => by
        unfold pureC Fk66 at h; split at h
        · rename_i h1; split at h1 <;> cases h1; exact absurd (h.1 _ rfl).1 (Nat.not_lt_zero _)
        · exact h.elim⟩, callable Tryd.func66 rfl (by rfl)⟩
  | succ k ih =>
    refine pure_ok (E := E66 k) (mkE_cons ih (mkE_cons s95 (mkE_nil tab_ok))) mix (O := O66) (F := (Fk66 (k + 1))) Tryd.func66 rfl (by rfl) (by kernel_rfl) (fun args o v h => ?_) (fun args o v h => ?_) (fun args o v h hbd hp K hK => ?_)
    · unfold Fk66 at h; split at h <;> cases h; first | trivial | (simp [v66, Scalar, Scalar2, Scalar1, stC, ndC, itC, chC, nwC])
    · unfold Fk66 at h; split at h <;> cases h; exact Nat.le_of_ble_eq_true rfl
    · unfold Fk66 at h; split at h
      case h_2 => cases h
      cases h
      exact a66 k ⟨_, _, _, _⟩ _ (hp _ rfl).1 (by exact hbd) (hp _ rfl).2 K hK
theorem s66 : (CtrOK Tryd.prog 66 (.pure F66) ∧ Callable Tryd.prog 66) := by
  refine ⟨⟨fun args o v h => ?_, fun args K h => ?_⟩, (r66 0).2⟩
  · unfold F66 at h; split at h <;> cases h; first | trivial | (simp [v66, Scalar, Scalar2, Scalar1, stC, ndC, itC, chC, nwC])
  · unfold pureC F66 at h; split at h
    · rename_i h1; split at h1 <;> cases h1
      exact (r66 (m66 ⟨_, _, _, _⟩ _ + 1)).1.2 _ K ⟨fun p hp => by cases hp; exact ⟨Nat.lt_succ_self _, (h.1 _ rfl)⟩, h.2⟩
    · exact h.elim
noncomputable def v32 (x : Sh) : AV := .bool (validS x)
noncomputable def o32 (x : Sh) : Prop := True
noncomputable def F32 : List AV → QR
  | [.st [.int .i64 x_0, .ps .str x_1, .ps .bool x_2, .ps .shape x_3]] => some (none, v32 ⟨x_0, x_1, x_2, x_3⟩)
  | _ => none
noncomputable def E32 : Ctx := mkE tab [(66, .pure F66)]
noncomputable def O32 : Nat → List DI := ordL []
theorem a32 (x : Sh) (hb : BdAs [.st (shC x)]) (ho : o32 x) (K : AV → List AV → Prop) (hK : K (v32 x) []) : abody E32 O32 .ps Tryd.f32 (Tryd.f32.body.getD .skip) [.st (shC x)] K := by
  simp only [BdAs, BdA, BdL, BdC, MX, ndC, shC, itC, stC, opC, chC, nwC, flC, rqC, rsC, enc, List.cons_append, List.nil_append, and_true, true_and] at hb
  unfold v32 at hK
  conv => whnf
  repeat' first
    | (refine Cnd.mk (fun h => ?_) (fun h => ?_) <;> (try simp [nd_eta, sh_eta, it_eta, sto_eta, op_eta, ch_eta, nw_eta, fl_eta, rq_eta, rs_eta, elDef, -List.getD_eq_getElem?_getD] at h) <;> conv => whnf)
    | (refine Obl.mk (by first | omega | rfl | exact inK_byte _ | (simp only [inK, Int.toNat_natCast, nd_eta, sh_eta, it_eta, sto_eta, op_eta, ch_eta, nw_eta, fl_eta, rq_eta, rs_eta, elDef, o66, m66] <;> first | omega | grind) | grind [inK, o66, m66]) ?_ <;> conv => whnf)
    | (refine OblG.mk (by conv => whnf
                          repeat (first | (refine Bx.mk ?_) | (intro h; (try simp [nd_eta, sh_eta, it_eta, sto_eta, op_eta, ch_eta, nw_eta, fl_eta, rq_eta, rs_eta, elDef, -List.getD_eq_getElem?_getD] at h); conv => whnf))
                          first | omega | rfl | exact inK_byte _ | (simp only [inK, Int.toNat_natCast, nd_eta, sh_eta, it_eta, sto_eta, op_eta, ch_eta, nw_eta, fl_eta, rq_eta, rs_eta, elDef, o66, m66] <;> first | omega | grind) | grind [inK, o66, m66]) ?_ <;> conv => whnf)
    | (refine Gd.mk (fun h => ?_) <;> (try simp [nd_eta, sh_eta, it_eta, sto_eta, op_eta, ch_eta, nw_eta, fl_eta, rq_eta, rs_eta, elDef, -List.getD_eq_getElem?_getD] at h) <;> conv => whnf)
    | (refine And.intro ?_ ?_ <;> conv => whnf)
    | exact True.intro
    | (intro; conv => whnf)
  exact leafB hK (by simp only [sh_eta]; rfl)
theorem s32 : (CtrOK Tryd.prog 32 (.pure F32) ∧ Callable Tryd.prog 32) := by
  refine pure_ok (E := E32) (mkE_cons s66 (mkE_nil tab_ok)) mix (O := O32) (F := F32) Tryd.func32 rfl (by rfl) (by kernel_rfl) (fun args o v h => ?_) (fun args o v h => ?_) (fun args o v h hbd hp K hK => ?_)
  · unfold F32 at h; split at h <;> cases h; first | trivial | (simp [v32, Scalar, Scalar2, Scalar1, stC, ndC, itC, chC, nwC])
  · unfold F32 at h; split at h <;> cases h; exact Nat.le_of_ble_eq_true rfl
  · unfold F32 at h; split at h
    case h_2 => cases h
    cases h
    exact a32 ⟨_, _, _, _⟩ (by exact hbd) trivial K hK
noncomputable def v35 (x : Sh) (d : Int) : AV := .bool (shpM d.toNat x)
noncomputable def o35 (x : Sh) (d : Int) : Prop := 0 ≤ d ∧ d ≤ 5
noncomputable def m35 (x : Sh) (d : Int) : Nat := SizeOf.sizeOf x
noncomputable def F35 : List AV → QR
  | [.st [.int .i64 x_0, .ps .str x_1, .ps .bool x_2, .ps .shape x_3], .int .i64 d] => some (some (o35 ⟨x_0, x_1, x_2, x_3⟩ d), v35 ⟨x_0, x_1, x_2, x_3⟩ d)
  | _ => none
noncomputable def Fk35 (k : Nat) : List AV → QR
  | [.st [.int .i64 x_0, .ps .str x_1, .ps .bool x_2, .ps .shape x_3], .int .i64 d] => some (some (m35 ⟨x_0, x_1, x_2, x_3⟩ d < k ∧ o35 ⟨x_0, x_1, x_2, x_3⟩ d), v35 ⟨x_0, x_1, x_2, x_3⟩ d)
  | _ => none
noncomputable def E35 (k : Nat) : Ctx := mkE tab [(35, .pure (Fk35 k)), (69, .pure F69), (70, .pure F70)]
noncomputable def O35 : Nat → List DI := ordL []
theorem a35 (k : Nat) (x : Sh) (d : Int) (hm : m35 x d < k + 1) (hb : BdAs [.st (shC x), .int .i64 d]) (ho : o35 x d) (K : AV → List AV → Prop) (hK : K (v35 x d) []) : abody (E35 k) O35 .ps Tryd.f35 (Tryd.f35.body.getD .skip) [.st (shC x), .int .i64 d] K := by
  simp only [BdAs, BdA, BdL, BdC, MX, ndC, shC, itC, stC, opC, chC, nwC, flC, rqC, rsC, enc, List.cons_append, List.nil_append, and_true, true_and] at hb
  unfold o35 at ho
  unfold v35 at hK
  unfold m35 at hm
  have hkid := fun j (h : j < x.kids.length) => kidS_size h
  have h6 : d = 0 → shpM d.toNat x = false := fun h => by rw [h]; rfl
  have he : 1 ≤ d → shpM d.toNat x = (topS x && x.kids.all (shpM (d.toNat - 1))) := fun h => by
    obtain ⟨e, he⟩ : ∃ e, d.toNat = e + 1 := ⟨d.toNat - 1, by omega⟩
    rw [he, shpM, Nat.add_sub_cancel]
  have ht : topS x = (decide (0 ≤ x.kind) && decide (x.kind ≤ 4) && areNamesM x.names && (decide (x.names.length = 0) || decide (x.kind = 4)) && decide (x.needs.length = x.names.length) && decide (x.kids.length = x.names.length)) := rfl
  have h7 : areNamesM x.names = true → x.names.length ≤ 6 := fun h => by simp only [areNamesM, Bool.and_eq_true, decide_eq_true_eq] at h; exact h.1
  conv => whnf
  repeat' first
    | (refine Cnd.mk (fun h => ?_) (fun h => ?_) <;> (try simp [nd_eta, sh_eta, it_eta, sto_eta, op_eta, ch_eta, nw_eta, fl_eta, rq_eta, rs_eta, elDef, -List.getD_eq_getElem?_getD] at h) <;> conv => whnf)
    | (refine Obl.mk (by first | omega | rfl | exact inK_byte _ | (simp only [inK, Int.toNat_natCast, nd_eta, sh_eta, it_eta, sto_eta, op_eta, ch_eta, nw_eta, fl_eta, rq_eta, rs_eta, elDef, m35, o35, m35] <;> first | omega | grind) | grind [inK, m35, o35, m35]) ?_ <;> conv => whnf)
    | (refine OblG.mk (by conv => whnf
                          repeat (first | (refine Bx.mk ?_) | (intro h; (try simp [nd_eta, sh_eta, it_eta, sto_eta, op_eta, ch_eta, nw_eta, fl_eta, rq_eta, rs_eta, elDef, -List.getD_eq_getElem?_getD] at h); conv => whnf))
                          first | omega | rfl | exact inK_byte _ | (simp only [inK, Int.toNat_natCast, nd_eta, sh_eta, it_eta, sto_eta, op_eta, ch_eta, nw_eta, fl_eta, rq_eta, rs_eta, elDef, m35, o35, m35] <;> first | omega | grind) | grind [inK, m35, o35, m35]) ?_ <;> conv => whnf)
    | (refine Gd.mk (fun h => ?_) <;> (try simp [nd_eta, sh_eta, it_eta, sto_eta, op_eta, ch_eta, nw_eta, fl_eta, rq_eta, rs_eta, elDef, -List.getD_eq_getElem?_getD] at h) <;> conv => whnf)
    | (refine And.intro ?_ ?_ <;> conv => whnf)
    | exact True.intro
    | (intro; conv => whnf)
  · refine leafB hK ?_
    by_cases h0 : d = 0
    · exact h6 h0
    rw [he (by omega), ht]
    have : ¬ (decide (0 ≤ x.kind) && decide (x.kind ≤ 4) && areNamesM x.names && (decide (x.names.length = 0) || decide (x.kind = 4)) && decide (x.needs.length = x.names.length) && decide (x.kids.length = x.names.length)) = true := by
      intro e
      have ha := h7
      simp only [Bool.and_eq_true, Bool.or_eq_true, decide_eq_true_eq, areNamesM] at e ha
      have := ha e.1.1.1.2
      rcases h with h | h
      · grind
      · grind
    rw [Bool.not_eq_true] at this
    rw [this]; rfl
  · have htt : topS x = true := by
      rw [ht]
      simp only [Bool.and_eq_true, Bool.or_eq_true, decide_eq_true_eq, areNamesM]
      grind
    rw [he (by omega), htt, Bool.true_and] at hK
    refine aloop_intro Nat (fun k => k ≤ x.kids.length ∧ ∀ j, j < k → shpM (d.toNat - 1) (x.kids.getD j default) = true) (fun k => x.kids.length - k) (fun k => [(5, .int .i64 k)]) (fun k => []) [2] 0 [] [] ?_ ?_ (by exact sgOk_of (by rfl)) ?_
    · first | (simp; done) | (simp; assumption)
    · (conv => whnf); (repeat' (first | exact trivial | rfl | (refine nilEq ?_; first | rfl | (simp only [*]; done) | (simp [*]; done) | grind) | apply And.intro | ((first | refine intEq ?_ | refine boolEq ?_ | refine strEq ?_ | refine psEq ?_ | refine nilEq ?_ | refine arrEq ?_); (try simp only [Int.toNat_natCast, nd_eta, sh_eta, it_eta, sto_eta, op_eta, ch_eta, nw_eta, fl_eta, rq_eta, rs_eta, elDef]); first | done | omega | grind | (simp only [*]; done) | (simp [*]; done)))); (all_goals (conv => whnf)); (repeat' (first | exact trivial | rfl | (refine nilEq ?_; first | rfl | (simp only [*]; done) | (simp [*]; done) | grind) | apply And.intro | ((first | refine intEq ?_ | refine boolEq ?_ | refine strEq ?_ | refine psEq ?_ | refine nilEq ?_ | refine arrEq ?_); (try simp only [Int.toNat_natCast, nd_eta, sh_eta, it_eta, sto_eta, op_eta, ch_eta, nw_eta, fl_eta, rq_eta, rs_eta, elDef]); first | done | omega | grind | (simp only [*]; done) | (simp [*]; done)) | ((try simp only [Int.toNat_natCast, nd_eta, sh_eta, it_eta, sto_eta, op_eta, ch_eta, nw_eta, fl_eta, rq_eta, rs_eta, elDef]); first | done | omega | grind | (simp only [*]; done) | (simp [*]; done))))
    rintro i ⟨hi, hj⟩
    conv => whnf
    have hks := hkid i
    repeat' first
      | (refine Cnd.mk (fun h => ?_) (fun h => ?_) <;> (try simp [nd_eta, sh_eta, it_eta, sto_eta, op_eta, ch_eta, nw_eta, fl_eta, rq_eta, rs_eta, elDef, -List.getD_eq_getElem?_getD] at h) <;> conv => whnf)
      | (refine Obl.mk (by first | omega | rfl | exact inK_byte _ | (simp only [inK, Int.toNat_natCast, nd_eta, sh_eta, it_eta, sto_eta, op_eta, ch_eta, nw_eta, fl_eta, rq_eta, rs_eta, elDef, m35, o35, m35] <;> first | omega | grind) | grind [inK, m35, o35, m35]) ?_ <;> conv => whnf)
      | (refine OblG.mk (by conv => whnf
                            repeat (first | (refine Bx.mk ?_) | (intro h; (try simp [nd_eta, sh_eta, it_eta, sto_eta, op_eta, ch_eta, nw_eta, fl_eta, rq_eta, rs_eta, elDef, -List.getD_eq_getElem?_getD] at h); conv => whnf))
                            first | omega | rfl | exact inK_byte _ | (simp only [inK, Int.toNat_natCast, nd_eta, sh_eta, it_eta, sto_eta, op_eta, ch_eta, nw_eta, fl_eta, rq_eta, rs_eta, elDef, m35, o35, m35] <;> first | omega | grind) | grind [inK, m35, o35, m35]) ?_ <;> conv => whnf)
      | (refine Gd.mk (fun h => ?_) <;> (try simp [nd_eta, sh_eta, it_eta, sto_eta, op_eta, ch_eta, nw_eta, fl_eta, rq_eta, rs_eta, elDef, -List.getD_eq_getElem?_getD] at h) <;> conv => whnf)
      | (refine And.intro ?_ ?_ <;> conv => whnf)
      | exact True.intro
      | (intro; conv => whnf)
    · exact leafB hK (allS_no (j := i) (by omega) h)
    · exact ⟨i + 1, [], [], ⟨by omega, fun j hj2 => by rcases Nat.lt_succ_iff_lt_or_eq.1 hj2 with h9 | h9; exact hj j h9; rw [h9]; exact h⟩, by omega, by (conv => whnf); (repeat' (first | exact trivial | rfl | (refine nilEq ?_; first | rfl | (simp only [*]; done) | (simp [*]; done) | grind) | apply And.intro | ((first | refine intEq ?_ | refine boolEq ?_ | refine strEq ?_ | refine psEq ?_ | refine nilEq ?_ | refine arrEq ?_); (try simp only [Int.toNat_natCast, nd_eta, sh_eta, it_eta, sto_eta, op_eta, ch_eta, nw_eta, fl_eta, rq_eta, rs_eta, elDef]); first | done | omega | grind | (simp only [*]; done) | (simp [*]; done)))); (all_goals (conv => whnf)); (repeat' (first | exact trivial | rfl | (refine nilEq ?_; first | rfl | (simp only [*]; done) | (simp [*]; done) | grind) | apply And.intro | ((first | refine intEq ?_ | refine boolEq ?_ | refine strEq ?_ | refine psEq ?_ | refine nilEq ?_ | refine arrEq ?_); (try simp only [Int.toNat_natCast, nd_eta, sh_eta, it_eta, sto_eta, op_eta, ch_eta, nw_eta, fl_eta, rq_eta, rs_eta, elDef]); first | done | omega | grind | (simp only [*]; done) | (simp [*]; done)) | ((try simp only [Int.toNat_natCast, nd_eta, sh_eta, it_eta, sto_eta, op_eta, ch_eta, nw_eta, fl_eta, rq_eta, rs_eta, elDef]); first | done | omega | grind | (simp only [*]; done) | (simp [*]; done)))), (by exact sgOk_of (by rfl))⟩
    · exact leafB hK ((allS_iff _ _).2 fun j hj2 => hj j (by omega))
theorem r35 : ∀ k, (CtrOK Tryd.prog 35 (.pure (Fk35 k)) ∧ Callable Tryd.prog 35) := by
  intro k
  induction k with
  | zero =>
    exact ⟨⟨fun args o v h => by unfold Fk35 at h; split at h <;> cases h; first | trivial | (simp [v35, Scalar, Scalar2, Scalar1, stC, ndC, itC, chC, nwC]), fun args K h => by
        unfold pureC Fk35 at h; split at h
        · rename_i h1; split at h1 <;> cases h1; exact absurd (h.1 _ rfl).1 (Nat.not_lt_zero _)
        · exact h.elim⟩, callable Tryd.func35 rfl (by rfl)⟩
  | succ k ih =>
    refine pure_ok (E := E35 k) (mkE_cons ih (mkE_cons s69 (mkE_cons s70 (mkE_nil tab_ok)))) mix (O := O35) (F := (Fk35 (k + 1))) Tryd.func35 rfl (by rfl) (by kernel_rfl) (fun args o v h => ?_) (fun args o v h => ?_) (fun args o v h hbd hp K hK => ?_)
    · unfold Fk35 at h; split at h <;> cases h; first | trivial | (simp [v35, Scalar, Scalar2, Scalar1, stC, ndC, itC, chC, nwC])
    · unfold Fk35 at h; split at h <;> cases h; exact Nat.le_of_ble_eq_true rfl
    · unfold Fk35 at h; split at h
      case h_2 => cases h
      cases h
      exact a35 k ⟨_, _, _, _⟩ _ (hp _ rfl).1 (by exact hbd) (hp _ rfl).2 K hK
theorem s35 : (CtrOK Tryd.prog 35 (.pure F35) ∧ Callable Tryd.prog 35) := by
  refine ⟨⟨fun args o v h => ?_, fun args K h => ?_⟩, (r35 0).2⟩
  · unfold F35 at h; split at h <;> cases h; first | trivial | (simp [v35, Scalar, Scalar2, Scalar1, stC, ndC, itC, chC, nwC])
  · unfold pureC F35 at h; split at h
    · rename_i h1; split at h1 <;> cases h1
      exact (r35 (m35 ⟨_, _, _, _⟩ _ + 1)).1.2 _ K ⟨fun p hp => by cases hp; exact ⟨Nat.lt_succ_self _, (h.1 _ rfl)⟩, h.2⟩
    · exact h.elim
def nmInM (n : Nd) (b : Bs) : Option Nd := if n.kind = 4 ∧ ¬ placeM n b < 0 then some (n.kids.getD (placeM n b).toNat default) else none
noncomputable def c68 (n : Nd) (b : Bs) (K : AV → List AV → Prop) : Prop :=
    Obl (okN n) (K (optN (nmInM n b)) [])
noncomputable def C68 : List AV → (AV → List AV → Prop) → Prop
  | [.st [.int .i64 n_0, .int .i64 n_1, .str n_2, .ps .str n_3, .ps .node n_4], .str b], K => c68 ⟨n_0, n_1, n_2, n_3, n_4⟩ b K
  | _, _ => False
noncomputable def E68 : Ctx := mkE tab [(83, .pure F83)]
noncomputable def O68 : Nat → List DI := ordL []
theorem a68 (n : Nd) (b : Bs) (hb : BdAs [.st (ndC n), .str b]) (K : AV → List AV → Prop) (h : c68 n b K) : abody E68 O68 .ps Tryd.f68 (Tryd.f68.body.getD .skip) [.st (ndC n), .str b] K := by
  simp only [BdAs, BdA, BdL, BdC, MX, ndC, shC, itC, stC, opC, chC, nwC, flC, rqC, rsC, enc, List.cons_append, List.nil_append, and_true, true_and] at hb
  unfold c68 at h
  obtain ⟨hn, hK⟩ := h
  have hso : sortedI (nmI n.names) := by
    by_cases hk : n.kind = 4
    · exact okN_sorted hn hk
    · rw [(okN_names hn).2.2 hk]; intro i j _ h; simp [nmI] at h
  have hkm := fun hk => kid_map (b := b) hn hk
  have hno : n.kind ≠ 4 → foundI (nmI n.names) b = false := fun hk => by rw [(okN_names hn).2.2 hk]; rfl
  have hpl := placeM_ge n b
  conv => whnf
  repeat' first
    | (refine Cnd.mk (fun h => ?_) (fun h => ?_) <;> (try simp [nd_eta, sh_eta, it_eta, sto_eta, op_eta, ch_eta, nw_eta, fl_eta, rq_eta, rs_eta, elDef, -List.getD_eq_getElem?_getD] at h) <;> conv => whnf)
    | (refine Obl.mk (by first | omega | rfl | exact inK_byte _ | (simp only [inK, Int.toNat_natCast, nd_eta, sh_eta, it_eta, sto_eta, op_eta, ch_eta, nw_eta, fl_eta, rq_eta, rs_eta, elDef, o83] <;> first | omega | grind) | grind [inK, o83]) ?_ <;> conv => whnf)
    | (refine OblG.mk (by conv => whnf
                          repeat (first | (refine Bx.mk ?_) | (intro h; (try simp [nd_eta, sh_eta, it_eta, sto_eta, op_eta, ch_eta, nw_eta, fl_eta, rq_eta, rs_eta, elDef, -List.getD_eq_getElem?_getD] at h); conv => whnf))
                          first | omega | rfl | exact inK_byte _ | (simp only [inK, Int.toNat_natCast, nd_eta, sh_eta, it_eta, sto_eta, op_eta, ch_eta, nw_eta, fl_eta, rq_eta, rs_eta, elDef, o83] <;> first | omega | grind) | grind [inK, o83]) ?_ <;> conv => whnf)
    | (refine Gd.mk (fun h => ?_) <;> (try simp [nd_eta, sh_eta, it_eta, sto_eta, op_eta, ch_eta, nw_eta, fl_eta, rq_eta, rs_eta, elDef, -List.getD_eq_getElem?_getD] at h) <;> conv => whnf)
    | (refine And.intro ?_ ?_ <;> conv => whnf)
    | exact True.intro
    | (intro; conv => whnf)
  · have e : nmInM n b = none := by unfold nmInM; rw [if_neg]; intro h2; have := (hkm h2.1).1; rw [h] at this; simp at this; omega
    exact leafV hK (by rw [e]; rfl)
  · have hk : n.kind = 4 := Classical.not_not.1 fun hk => by rw [hno hk] at h; cases h
    have h3 := (hkm hk).2 h
    have e : nmInM n b = some (n.kids.getD (lbI (nmI n.names) b) default) := by unfold nmInM; rw [if_pos ⟨hk, by omega⟩, h3]; simp
    exact leafV hK (by rw [e]; simp only [optN, ndC, Option.getD_some, Option.isSome_some, Int.toNat_natCast, elDef])
theorem s68 : (CtrOK Tryd.prog 68 (.gen .ps C68) ∧ Callable Tryd.prog 68) := by
  refine gen_ok (E := E68) (mkE_cons s83 (mkE_nil tab_ok)) mix (O := O68) (C := C68) (own := .ps) Tryd.func68 rfl (by rfl) (by kernel_rfl) (fun args K h hbd => ?_)
  unfold C68 at h; split at h
  case h_2 => exact h.elim
  exact ⟨Nat.le_of_ble_eq_true rfl, a68 ⟨_, _, _, _, _⟩ _ (by exact hbd) _ h⟩
noncomputable def c34 (x : Sh) (n : Nd) (K : AV → List AV → Prop) : Prop :=
    Obl (okS x ∧ okN n) (K (.tup [.ps .str ((misM x n).getD []), .bool (misM x n).isSome]) [])
noncomputable def m34 (x : Sh) (n : Nd) : Nat := SizeOf.sizeOf x
noncomputable def C34 : List AV → (AV → List AV → Prop) → Prop
  | [.st [.int .i64 x_0, .ps .str x_1, .ps .bool x_2, .ps .shape x_3], .st [.int .i64 n_0, .int .i64 n_1, .str n_2, .ps .str n_3, .ps .node n_4]], K => c34 ⟨x_0, x_1, x_2, x_3⟩ ⟨n_0, n_1, n_2, n_3, n_4⟩ K
  | _, _ => False
noncomputable def Ck34 (k : Nat) : List AV → (AV → List AV → Prop) → Prop
  | [.st [.int .i64 x_0, .ps .str x_1, .ps .bool x_2, .ps .shape x_3], .st [.int .i64 n_0, .int .i64 n_1, .str n_2, .ps .str n_3, .ps .node n_4]], K => Obl (m34 ⟨x_0, x_1, x_2, x_3⟩ ⟨n_0, n_1, n_2, n_3, n_4⟩ < k) (c34 ⟨x_0, x_1, x_2, x_3⟩ ⟨n_0, n_1, n_2, n_3, n_4⟩ K)
  | _, _ => False
noncomputable def E34 (k : Nat) : Ctx := mkE tab [(34, .gen .ps (Ck34 k)), (68, .gen .ps C68)]
noncomputable def O34 : Nat → List DI := ordL [(12, [.q 0, .q 1, .q 2, .q 3, .q 4, .q 5, .l 6 [], .q 7, .q 8, .q 9, .q 10, .q 11])]
theorem a34 (k : Nat) (x : Sh) (n : Nd) (hm : m34 x n < k + 1) (hb : BdAs [.st (shC x), .st (ndC n)]) (K : AV → List AV → Prop) (h : c34 x n K) : abody (E34 k) O34 .ps Tryd.f34 (Tryd.f34.body.getD .skip) [.st (shC x), .st (ndC n)] K := by
  simp only [BdAs, BdA, BdL, BdC, MX, ndC, shC, itC, stC, opC, chC, nwC, flC, rqC, rsC, enc, List.cons_append, List.nil_append, and_true, true_and] at hb
  unfold c34 at h
  unfold m34 at hm
  obtain ⟨⟨hx, hn⟩, hK⟩ := h
  have hm2 := misM_eq x n
  have htp := top_facts (okS_top hx)
  conv => whnf
  repeat' first
    | (refine Cnd.mk (fun h => ?_) (fun h => ?_) <;> (try simp [nd_eta, sh_eta, it_eta, sto_eta, op_eta, ch_eta, nw_eta, fl_eta, rq_eta, rs_eta, elDef, -List.getD_eq_getElem?_getD] at h) <;> conv => whnf)
    | (refine Obl.mk (by first | omega | rfl | exact inK_byte _ | (simp only [inK, Int.toNat_natCast, nd_eta, sh_eta, it_eta, sto_eta, op_eta, ch_eta, nw_eta, fl_eta, rq_eta, rs_eta, elDef, m34, m34] <;> first | omega | grind) | grind [inK, m34, m34]) ?_ <;> conv => whnf)
    | (refine OblG.mk (by conv => whnf
                          repeat (first | (refine Bx.mk ?_) | (intro h; (try simp [nd_eta, sh_eta, it_eta, sto_eta, op_eta, ch_eta, nw_eta, fl_eta, rq_eta, rs_eta, elDef, -List.getD_eq_getElem?_getD] at h); conv => whnf))
                          first | omega | rfl | exact inK_byte _ | (simp only [inK, Int.toNat_natCast, nd_eta, sh_eta, it_eta, sto_eta, op_eta, ch_eta, nw_eta, fl_eta, rq_eta, rs_eta, elDef, m34, m34] <;> first | omega | grind) | grind [inK, m34, m34]) ?_ <;> conv => whnf)
    | (refine Gd.mk (fun h => ?_) <;> (try simp [nd_eta, sh_eta, it_eta, sto_eta, op_eta, ch_eta, nw_eta, fl_eta, rq_eta, rs_eta, elDef, -List.getD_eq_getElem?_getD] at h) <;> conv => whnf)
    | (refine And.intro ?_ ?_ <;> conv => whnf)
    | exact True.intro
    | (intro; conv => whnf)
  · exact leafV hK (by rw [hm2, if_pos (by assumption)]; rfl)
  · exact leafV hK (by rw [hm2, if_neg (by assumption), if_neg (by assumption)]; rfl)
  · rename_i hk0
    have h0 : misM x n = misK x n 0 := by rw [hm2, if_neg hk0, if_pos h]; rfl
    refine aloop_intro Nat (fun k => k ≤ x.names.length ∧ misM x n = misK x n k) (fun k => x.names.length - k) (fun k => [(23, .int .i64 k)]) (fun k => []) [2, 3] 0 [] [] ?_ ?_ (by exact sgOk_of (by rfl)) ?_
    · first | (simp; done) | (simp; assumption)
    · (conv => whnf); (repeat' (first | exact trivial | rfl | (refine nilEq ?_; first | rfl | (simp only [*]; done) | (simp [*]; done) | grind) | apply And.intro | ((first | refine intEq ?_ | refine boolEq ?_ | refine strEq ?_ | refine psEq ?_ | refine nilEq ?_ | refine arrEq ?_); (try simp only [Int.toNat_natCast, nd_eta, sh_eta, it_eta, sto_eta, op_eta, ch_eta, nw_eta, fl_eta, rq_eta, rs_eta, elDef]); first | done | omega | grind | (simp only [*]; done) | (simp [*]; done)))); (all_goals (conv => whnf)); (repeat' (first | exact trivial | rfl | (refine nilEq ?_; first | rfl | (simp only [*]; done) | (simp [*]; done) | grind) | apply And.intro | ((first | refine intEq ?_ | refine boolEq ?_ | refine strEq ?_ | refine psEq ?_ | refine nilEq ?_ | refine arrEq ?_); (try simp only [Int.toNat_natCast, nd_eta, sh_eta, it_eta, sto_eta, op_eta, ch_eta, nw_eta, fl_eta, rq_eta, rs_eta, elDef]); first | done | omega | grind | (simp only [*]; done) | (simp [*]; done)) | ((try simp only [Int.toNat_natCast, nd_eta, sh_eta, it_eta, sto_eta, op_eta, ch_eta, nw_eta, fl_eta, rq_eta, rs_eta, elDef]); first | done | omega | grind | (simp only [*]; done) | (simp [*]; done))))
    rintro i ⟨hi, hj⟩
    conv => whnf
    have hst := fun h => misK_step (x := x) (n := n) (i := i) h htp.2.2.2.2.1 htp.2.2.2.2.2
    have hen := fun h => misK_end (x := x) (n := n) (i := i) h
    have hpl := placeM_ge n (x.names.getD i [])
    have hks := fun (h : i < x.kids.length) => kidS_size h
    have hko := fun (h : i < x.kids.length) => okS_kid hx h
    have hkn := fun (h : (placeM n (x.names.getD i [])).toNat < n.kids.length) => okN_kid hn h
    have hni : i < x.names.length → nmInM n (x.names.getD i []) = if placeM n (x.names.getD i []) < 0 then none else some (n.kids.getD (placeM n (x.names.getD i [])).toNat default) := fun hi2 => by
      have h4 : n.kind = 4 := by omega
      unfold nmInM
      by_cases hp : placeM n (x.names.getD i []) < 0
      · rw [if_neg (fun h => h.2 hp), if_pos hp]
      · rw [if_pos ⟨h4, hp⟩, if_neg hp]
    have h55 := fun (h : i < x.kids.length) => mis_five (n := (nmInM n (x.names.getD i [])).getD default) (okS_kid hx h)
    have hno := fun (h : i < x.names.length) (h2 : nmInM n (x.names.getD i []) = none) => (show placeM n (x.names.getD i []) < 0 by
      have h3 := hni h
      rw [h2] at h3
      split at h3
      · assumption
      · cases h3)
    have hye : ∀ (_ : i < x.names.length) (_ : (nmInM n (x.names.getD i [])).isSome = true), ¬ placeM n (x.names.getD i []) < 0 ∧ (nmInM n (x.names.getD i [])).getD default = n.kids.getD (placeM n (x.names.getD i [])).toNat default := fun h h2 => by
      have h3 := hni h
      rw [h3] at h2 ⊢
      split at h2
      · cases h2
      · rename_i hp; exact ⟨hp, by rw [if_neg hp]; rfl⟩
    have hoy : ∀ (_ : i < x.names.length) (_ : (nmInM n (x.names.getD i [])).isSome = true), okN ((nmInM n (x.names.getD i [])).getD default) := fun h h2 => by
      have h3 := hye h h2
      rw [h3.2]; exact hkn (by omega)
    repeat' first
      | (refine Cnd.mk (fun h => ?_) (fun h => ?_) <;> (try simp [nd_eta, sh_eta, it_eta, sto_eta, op_eta, ch_eta, nw_eta, fl_eta, rq_eta, rs_eta, elDef, -List.getD_eq_getElem?_getD] at h) <;> conv => whnf)
      | (refine Obl.mk (by first | omega | rfl | exact inK_byte _ | (simp only [inK, Int.toNat_natCast, nd_eta, sh_eta, it_eta, sto_eta, op_eta, ch_eta, nw_eta, fl_eta, rq_eta, rs_eta, elDef, m34, m34] <;> first | omega | grind) | grind [inK, m34, m34]) ?_ <;> conv => whnf)
      | (refine OblG.mk (by conv => whnf
                            repeat (first | (refine Bx.mk ?_) | (intro h; (try simp [nd_eta, sh_eta, it_eta, sto_eta, op_eta, ch_eta, nw_eta, fl_eta, rq_eta, rs_eta, elDef, -List.getD_eq_getElem?_getD] at h); conv => whnf))
                            first | omega | rfl | exact inK_byte _ | (simp only [inK, Int.toNat_natCast, nd_eta, sh_eta, it_eta, sto_eta, op_eta, ch_eta, nw_eta, fl_eta, rq_eta, rs_eta, elDef, m34, m34] <;> first | omega | grind) | grind [inK, m34, m34]) ?_ <;> conv => whnf)
      | (refine Gd.mk (fun h => ?_) <;> (try simp [nd_eta, sh_eta, it_eta, sto_eta, op_eta, ch_eta, nw_eta, fl_eta, rq_eta, rs_eta, elDef, -List.getD_eq_getElem?_getD] at h) <;> conv => whnf)
      | (refine And.intro ?_ ?_ <;> conv => whnf)
      | exact True.intro
      | (intro; conv => whnf)
    · rename_i h1 h2
      have hp := hno h1 h2
      have e : misM x n = some [x.names.getD i []] := by rw [hj, hst h1, if_pos hp, if_pos h]
      exact leafV hK (by rw [e]; simp only [Int.toNat_natCast, elDef]; rfl)
    · rename_i h1 h2
      have hp := hno h1 h2
      exact ⟨i + 1, [], [], ⟨by omega, by rw [hj, hst h1, if_pos hp, if_neg (by rw [h]; simp)]⟩, by omega, by (conv => whnf); (repeat' (first | exact trivial | rfl | (refine nilEq ?_; first | rfl | (simp only [*]; done) | (simp [*]; done) | grind) | apply And.intro | ((first | refine intEq ?_ | refine boolEq ?_ | refine strEq ?_ | refine psEq ?_ | refine nilEq ?_ | refine arrEq ?_); (try simp only [Int.toNat_natCast, nd_eta, sh_eta, it_eta, sto_eta, op_eta, ch_eta, nw_eta, fl_eta, rq_eta, rs_eta, elDef]); first | done | omega | grind | (simp only [*]; done) | (simp [*]; done)))); (all_goals (conv => whnf)); (repeat' (first | exact trivial | rfl | (refine nilEq ?_; first | rfl | (simp only [*]; done) | (simp [*]; done) | grind) | apply And.intro | ((first | refine intEq ?_ | refine boolEq ?_ | refine strEq ?_ | refine psEq ?_ | refine nilEq ?_ | refine arrEq ?_); (try simp only [Int.toNat_natCast, nd_eta, sh_eta, it_eta, sto_eta, op_eta, ch_eta, nw_eta, fl_eta, rq_eta, rs_eta, elDef]); first | done | omega | grind | (simp only [*]; done) | (simp [*]; done)) | ((try simp only [Int.toNat_natCast, nd_eta, sh_eta, it_eta, sto_eta, op_eta, ch_eta, nw_eta, fl_eta, rq_eta, rs_eta, elDef]); first | done | omega | grind | (simp only [*]; done) | (simp [*]; done)))), (by exact sgOk_of (by rfl))⟩
    · rename_i h1 h2
      obtain ⟨hp, hg⟩ := hye h1 h2
      rw [hg] at h
      obtain ⟨q, hq⟩ := Option.isSome_iff_exists.1 h
      have e : misM x n = some (x.names.getD i [] :: q) := by rw [hj, hst h1, if_neg hp, hq]
      exact leafV hK (by simp only [Int.toNat_natCast, elDef, sh_eta, nd_eta, hg, hq, e]; rfl)
    · rename_i h1 h2
      obtain ⟨hp, hg⟩ := hye h1 h2
      rw [hg] at h
      exact ⟨i + 1, [], [], ⟨by omega, by rw [hj, hst h1, if_neg hp, h]⟩, by omega, by (conv => whnf); (repeat' (first | exact trivial | rfl | (refine nilEq ?_; first | rfl | (simp only [*]; done) | (simp [*]; done) | grind) | apply And.intro | ((first | refine intEq ?_ | refine boolEq ?_ | refine strEq ?_ | refine psEq ?_ | refine nilEq ?_ | refine arrEq ?_); (try simp only [Int.toNat_natCast, nd_eta, sh_eta, it_eta, sto_eta, op_eta, ch_eta, nw_eta, fl_eta, rq_eta, rs_eta, elDef]); first | done | omega | grind | (simp only [*]; done) | (simp [*]; done)))); (all_goals (conv => whnf)); (repeat' (first | exact trivial | rfl | (refine nilEq ?_; first | rfl | (simp only [*]; done) | (simp [*]; done) | grind) | apply And.intro | ((first | refine intEq ?_ | refine boolEq ?_ | refine strEq ?_ | refine psEq ?_ | refine nilEq ?_ | refine arrEq ?_); (try simp only [Int.toNat_natCast, nd_eta, sh_eta, it_eta, sto_eta, op_eta, ch_eta, nw_eta, fl_eta, rq_eta, rs_eta, elDef]); first | done | omega | grind | (simp only [*]; done) | (simp [*]; done)) | ((try simp only [Int.toNat_natCast, nd_eta, sh_eta, it_eta, sto_eta, op_eta, ch_eta, nw_eta, fl_eta, rq_eta, rs_eta, elDef]); first | done | omega | grind | (simp only [*]; done) | (simp [*]; done)))), (by exact sgOk_of (by rfl))⟩
    · exact leafV hK (by rw [hj, hen (by omega)]; rfl)
theorem r34 : ∀ k, (CtrOK Tryd.prog 34 (.gen .ps (Ck34 k)) ∧ Callable Tryd.prog 34) := by
  intro k
  induction k with
  | zero =>
    exact ⟨fun args K h => by
        unfold Ck34 at h; split at h
        · exact absurd h.o (Nat.not_lt_zero _)
        · exact h.elim, callable Tryd.func34 rfl (by rfl)⟩
  | succ k ih =>
    refine gen_ok (E := E34 k) (mkE_cons ih (mkE_cons s68 (mkE_nil tab_ok))) mix (O := O34) (C := (Ck34 (k + 1))) (own := .ps) Tryd.func34 rfl (by rfl) (by kernel_rfl) (fun args K h hbd => ?_)
    unfold Ck34 at h; split at h
    case h_2 => exact h.elim
    exact ⟨Nat.le_of_ble_eq_true rfl, a34 k ⟨_, _, _, _⟩ ⟨_, _, _, _, _⟩ h.o (by exact hbd) _ h.k⟩
theorem s34 : (CtrOK Tryd.prog 34 (.gen .ps C34) ∧ Callable Tryd.prog 34) := by
  refine ⟨fun args K h => ?_, (r34 0).2⟩
  unfold C34 at h; split at h
  · exact (r34 (m34 ⟨_, _, _, _⟩ ⟨_, _, _, _, _⟩ + 1)).1 _ K ⟨Nat.lt_succ_self _, h⟩
  · exact h.elim
noncomputable def v36 (x : Sh) (n : Nd) : AV := .bool (!(misM x n).isSome)
noncomputable def o36 (x : Sh) (n : Nd) : Prop := okS x ∧ okN n
noncomputable def m36 (x : Sh) (n : Nd) : Nat := SizeOf.sizeOf x
noncomputable def F36 : List AV → QR
  | [.st [.int .i64 x_0, .ps .str x_1, .ps .bool x_2, .ps .shape x_3], .st [.int .i64 n_0, .int .i64 n_1, .str n_2, .ps .str n_3, .ps .node n_4]] => some (some (o36 ⟨x_0, x_1, x_2, x_3⟩ ⟨n_0, n_1, n_2, n_3, n_4⟩), v36 ⟨x_0, x_1, x_2, x_3⟩ ⟨n_0, n_1, n_2, n_3, n_4⟩)
  | _ => none
noncomputable def Fk36 (k : Nat) : List AV → QR
  | [.st [.int .i64 x_0, .ps .str x_1, .ps .bool x_2, .ps .shape x_3], .st [.int .i64 n_0, .int .i64 n_1, .str n_2, .ps .str n_3, .ps .node n_4]] => some (some (m36 ⟨x_0, x_1, x_2, x_3⟩ ⟨n_0, n_1, n_2, n_3, n_4⟩ < k ∧ o36 ⟨x_0, x_1, x_2, x_3⟩ ⟨n_0, n_1, n_2, n_3, n_4⟩), v36 ⟨x_0, x_1, x_2, x_3⟩ ⟨n_0, n_1, n_2, n_3, n_4⟩)
  | _ => none
noncomputable def E36 (k : Nat) : Ctx := mkE tab [(36, .pure (Fk36 k)), (71, .pure F71)]
noncomputable def O36 : Nat → List DI := ordL [(6, [.q 0, .q 1, .q 2, .q 3, .q 4, .q 5, .q 6, .q 7]), (7, [.q 0, .q 1, .q 2, .q 3, .q 4, .q 5, .q 6, .q 7, .q 8, .q 9, .q 10, .q 11, .q 12, .q 13, .q 14, .q 15, .q 16, .q 17, .q 18, .q 19, .q 20, .q 21, .q 22, .q 23, .q 24, .q 25, .q 26])]
theorem a36 (k : Nat) (x : Sh) (n : Nd) (hm : m36 x n < k + 1) (hb : BdAs [.st (shC x), .st (ndC n)]) (ho : o36 x n) (K : AV → List AV → Prop) (hK : K (v36 x n) []) : abody (E36 k) O36 .ps Tryd.f36 (Tryd.f36.body.getD .skip) [.st (shC x), .st (ndC n)] K := by
  simp only [BdAs, BdA, BdL, BdC, MX, ndC, shC, itC, stC, opC, chC, nwC, flC, rqC, rsC, enc, List.cons_append, List.nil_append, and_true, true_and] at hb
  unfold o36 at ho
  unfold v36 at hK
  unfold m36 at hm
  obtain ⟨hx, hn⟩ := ho
  have hm2 := misM_eq x n
  have htp := top_facts (okS_top hx)
  conv => whnf
  repeat' first
    | (refine Cnd.mk (fun h => ?_) (fun h => ?_) <;> (try simp [nd_eta, sh_eta, it_eta, sto_eta, op_eta, ch_eta, nw_eta, fl_eta, rq_eta, rs_eta, elDef, -List.getD_eq_getElem?_getD] at h) <;> conv => whnf)
    | (refine Obl.mk (by first | omega | rfl | exact inK_byte _ | (simp only [inK, Int.toNat_natCast, nd_eta, sh_eta, it_eta, sto_eta, op_eta, ch_eta, nw_eta, fl_eta, rq_eta, rs_eta, elDef, m36, o36, m36, o71] <;> first | omega | grind) | grind [inK, m36, o36, m36, o71]) ?_ <;> conv => whnf)
    | (refine OblG.mk (by conv => whnf
                          repeat (first | (refine Bx.mk ?_) | (intro h; (try simp [nd_eta, sh_eta, it_eta, sto_eta, op_eta, ch_eta, nw_eta, fl_eta, rq_eta, rs_eta, elDef, -List.getD_eq_getElem?_getD] at h); conv => whnf))
                          first | omega | rfl | exact inK_byte _ | (simp only [inK, Int.toNat_natCast, nd_eta, sh_eta, it_eta, sto_eta, op_eta, ch_eta, nw_eta, fl_eta, rq_eta, rs_eta, elDef, m36, o36, m36, o71] <;> first | omega | grind) | grind [inK, m36, o36, m36, o71]) ?_ <;> conv => whnf)
    | (refine Gd.mk (fun h => ?_) <;> (try simp [nd_eta, sh_eta, it_eta, sto_eta, op_eta, ch_eta, nw_eta, fl_eta, rq_eta, rs_eta, elDef, -List.getD_eq_getElem?_getD] at h) <;> conv => whnf)
    | (refine And.intro ?_ ?_ <;> conv => whnf)
    | exact True.intro
    | (intro; conv => whnf)
  · have : ¬ x.kind = n.kind := fun e => h.2 e.symm
    exact leafB hK (by rw [hm2, if_neg h.1, if_neg this]; rfl)
  · have h0 : misM x n = misK x n 0 := by
      rw [hm2]
      by_cases hk : x.kind = 0
      · have : x.names.length = 0 := by omega
        rw [if_pos hk, misK_end (by omega)]
      · rw [if_neg hk, if_pos (h hk).symm]; rfl
    refine aloop_intro Nat (fun k => k ≤ x.names.length ∧ misM x n = misK x n k) (fun k => x.names.length - k) (fun k => [(5, .int .i64 k)]) (fun k => []) [2, 3] 0 [] [] ?_ ?_ (by exact sgOk_of (by rfl)) ?_
    · first | (simp; done) | (simp; assumption)
    · (conv => whnf); (repeat' (first | exact trivial | rfl | (refine nilEq ?_; first | rfl | (simp only [*]; done) | (simp [*]; done) | grind) | apply And.intro | ((first | refine intEq ?_ | refine boolEq ?_ | refine strEq ?_ | refine psEq ?_ | refine nilEq ?_ | refine arrEq ?_); (try simp only [Int.toNat_natCast, nd_eta, sh_eta, it_eta, sto_eta, op_eta, ch_eta, nw_eta, fl_eta, rq_eta, rs_eta, elDef]); first | done | omega | grind | (simp only [*]; done) | (simp [*]; done)))); (all_goals (conv => whnf)); (repeat' (first | exact trivial | rfl | (refine nilEq ?_; first | rfl | (simp only [*]; done) | (simp [*]; done) | grind) | apply And.intro | ((first | refine intEq ?_ | refine boolEq ?_ | refine strEq ?_ | refine psEq ?_ | refine nilEq ?_ | refine arrEq ?_); (try simp only [Int.toNat_natCast, nd_eta, sh_eta, it_eta, sto_eta, op_eta, ch_eta, nw_eta, fl_eta, rq_eta, rs_eta, elDef]); first | done | omega | grind | (simp only [*]; done) | (simp [*]; done)) | ((try simp only [Int.toNat_natCast, nd_eta, sh_eta, it_eta, sto_eta, op_eta, ch_eta, nw_eta, fl_eta, rq_eta, rs_eta, elDef]); first | done | omega | grind | (simp only [*]; done) | (simp [*]; done))))
    rintro i ⟨hi, hj⟩
    conv => whnf
    have hst := fun h => misK_step (x := x) (n := n) (i := i) h htp.2.2.2.2.1 htp.2.2.2.2.2
    have hen := fun h => misK_end (x := x) (n := n) (i := i) h
    have hpl := placeM_ge n (x.names.getD i [])
    have hks := fun (h : i < x.kids.length) => kidS_size h
    have hko := fun (h : i < x.kids.length) => okS_kid hx h
    have hkn := fun (h : (placeM n (x.names.getD i [])).toNat < n.kids.length) => okN_kid hn h
    have hnk := okN_kids hn
    have hnn := (okN_names hn).2.1
    repeat' first
      | (refine Cnd.mk (fun h => ?_) (fun h => ?_) <;> (try simp [nd_eta, sh_eta, it_eta, sto_eta, op_eta, ch_eta, nw_eta, fl_eta, rq_eta, rs_eta, elDef, -List.getD_eq_getElem?_getD] at h) <;> conv => whnf)
      | (refine Obl.mk (by first | omega | rfl | exact inK_byte _ | (simp only [inK, Int.toNat_natCast, nd_eta, sh_eta, it_eta, sto_eta, op_eta, ch_eta, nw_eta, fl_eta, rq_eta, rs_eta, elDef, m36, o36, m36, o71] <;> first | omega | grind) | grind [inK, m36, o36, m36, o71]) ?_ <;> conv => whnf)
      | (refine OblG.mk (by conv => whnf
                            repeat (first | (refine Bx.mk ?_) | (intro h; (try simp [nd_eta, sh_eta, it_eta, sto_eta, op_eta, ch_eta, nw_eta, fl_eta, rq_eta, rs_eta, elDef, -List.getD_eq_getElem?_getD] at h); conv => whnf))
                            first | omega | rfl | exact inK_byte _ | (simp only [inK, Int.toNat_natCast, nd_eta, sh_eta, it_eta, sto_eta, op_eta, ch_eta, nw_eta, fl_eta, rq_eta, rs_eta, elDef, m36, o36, m36, o71] <;> first | omega | grind) | grind [inK, m36, o36, m36, o71]) ?_ <;> conv => whnf)
      | (refine Gd.mk (fun h => ?_) <;> (try simp [nd_eta, sh_eta, it_eta, sto_eta, op_eta, ch_eta, nw_eta, fl_eta, rq_eta, rs_eta, elDef, -List.getD_eq_getElem?_getD] at h) <;> conv => whnf)
      | (refine And.intro ?_ ?_ <;> conv => whnf)
      | exact True.intro
      | (intro; conv => whnf)
    · rename_i h1
      refine leafB hK ?_
      rw [hj, hst h1]
      rcases h with h | h
      · rw [if_pos h.1, if_pos h.2]; rfl
      · rw [if_neg (by omega)]
        obtain ⟨q, hq⟩ := Option.isSome_iff_exists.1 h.2
        rw [hq]; rfl
    · rename_i h1
      refine ⟨i + 1, [], [], ⟨by omega, ?_⟩, by omega, by (conv => whnf); (repeat' (first | exact trivial | rfl | (refine nilEq ?_; first | rfl | (simp only [*]; done) | (simp [*]; done) | grind) | apply And.intro | ((first | refine intEq ?_ | refine boolEq ?_ | refine strEq ?_ | refine psEq ?_ | refine nilEq ?_ | refine arrEq ?_); (try simp only [Int.toNat_natCast, nd_eta, sh_eta, it_eta, sto_eta, op_eta, ch_eta, nw_eta, fl_eta, rq_eta, rs_eta, elDef]); first | done | omega | grind | (simp only [*]; done) | (simp [*]; done)))); (all_goals (conv => whnf)); (repeat' (first | exact trivial | rfl | (refine nilEq ?_; first | rfl | (simp only [*]; done) | (simp [*]; done) | grind) | apply And.intro | ((first | refine intEq ?_ | refine boolEq ?_ | refine strEq ?_ | refine psEq ?_ | refine nilEq ?_ | refine arrEq ?_); (try simp only [Int.toNat_natCast, nd_eta, sh_eta, it_eta, sto_eta, op_eta, ch_eta, nw_eta, fl_eta, rq_eta, rs_eta, elDef]); first | done | omega | grind | (simp only [*]; done) | (simp [*]; done)) | ((try simp only [Int.toNat_natCast, nd_eta, sh_eta, it_eta, sto_eta, op_eta, ch_eta, nw_eta, fl_eta, rq_eta, rs_eta, elDef]); first | done | omega | grind | (simp only [*]; done) | (simp [*]; done)))), (by exact sgOk_of (by rfl))⟩
      rw [hj, hst h1]
      by_cases hp : placeM n (x.names.getD i []) < 0
      · rw [if_pos hp, if_neg (by rw [h.1 hp]; simp)]
      · rw [if_neg hp, h.2 (by omega)]
    · exact leafB hK (by rw [hj, hen (by omega)]; rfl)
theorem r36 : ∀ k, (CtrOK Tryd.prog 36 (.pure (Fk36 k)) ∧ Callable Tryd.prog 36) := by
  intro k
  induction k with
  | zero =>
    exact ⟨⟨fun args o v h => by unfold Fk36 at h; split at h <;> cases h; first | trivial | (simp [v36, Scalar, Scalar2, Scalar1, stC, ndC, itC, chC, nwC]), fun args K h => by
        unfold pureC Fk36 at h; split at h
        · rename_i h1; split at h1 <;> cases h1; exact absurd (h.1 _ rfl).1 (Nat.not_lt_zero _)
        · exact h.elim⟩, callable Tryd.func36 rfl (by rfl)⟩
  | succ k ih =>
    refine pure_ok (E := E36 k) (mkE_cons ih (mkE_cons s71 (mkE_nil tab_ok))) mix (O := O36) (F := (Fk36 (k + 1))) Tryd.func36 rfl (by rfl) (by kernel_rfl) (fun args o v h => ?_) (fun args o v h => ?_) (fun args o v h hbd hp K hK => ?_)
    · unfold Fk36 at h; split at h <;> cases h; first | trivial | (simp [v36, Scalar, Scalar2, Scalar1, stC, ndC, itC, chC, nwC])
    · unfold Fk36 at h; split at h <;> cases h; exact Nat.le_of_ble_eq_true rfl
    · unfold Fk36 at h; split at h
      case h_2 => cases h
      cases h
      exact a36 k ⟨_, _, _, _⟩ ⟨_, _, _, _, _⟩ (hp _ rfl).1 (by exact hbd) (hp _ rfl).2 K hK
theorem s36 : (CtrOK Tryd.prog 36 (.pure F36) ∧ Callable Tryd.prog 36) := by
  refine ⟨⟨fun args o v h => ?_, fun args K h => ?_⟩, (r36 0).2⟩
  · unfold F36 at h; split at h <;> cases h; first | trivial | (simp [v36, Scalar, Scalar2, Scalar1, stC, ndC, itC, chC, nwC])
  · unfold pureC F36 at h; split at h
    · rename_i h1; split at h1 <;> cases h1
      exact (r36 (m36 ⟨_, _, _, _⟩ ⟨_, _, _, _, _⟩ + 1)).1.2 _ K ⟨fun p hp => by cases hp; exact ⟨Nat.lt_succ_self _, (h.1 _ rfl)⟩, h.2⟩
    · exact h.elim
noncomputable def v37 (x : Sh) (n : Nd) : AV := .ps .str ((misM x n).getD [])
noncomputable def o37 (x : Sh) (n : Nd) : Prop := (okS x ∧ okN n) ∧ (misM x n).isSome = true
noncomputable def m37 (x : Sh) (n : Nd) : Nat := SizeOf.sizeOf x
noncomputable def F37 : List AV → QR
  | [.st [.int .i64 x_0, .ps .str x_1, .ps .bool x_2, .ps .shape x_3], .st [.int .i64 n_0, .int .i64 n_1, .str n_2, .ps .str n_3, .ps .node n_4]] => some (some (o37 ⟨x_0, x_1, x_2, x_3⟩ ⟨n_0, n_1, n_2, n_3, n_4⟩), v37 ⟨x_0, x_1, x_2, x_3⟩ ⟨n_0, n_1, n_2, n_3, n_4⟩)
  | _ => none
noncomputable def Fk37 (k : Nat) : List AV → QR
  | [.st [.int .i64 x_0, .ps .str x_1, .ps .bool x_2, .ps .shape x_3], .st [.int .i64 n_0, .int .i64 n_1, .str n_2, .ps .str n_3, .ps .node n_4]] => some (some (m37 ⟨x_0, x_1, x_2, x_3⟩ ⟨n_0, n_1, n_2, n_3, n_4⟩ < k ∧ o37 ⟨x_0, x_1, x_2, x_3⟩ ⟨n_0, n_1, n_2, n_3, n_4⟩), v37 ⟨x_0, x_1, x_2, x_3⟩ ⟨n_0, n_1, n_2, n_3, n_4⟩)
  | _ => none
noncomputable def E37 (k : Nat) : Ctx := mkE tab [(36, .pure F36), (37, .pure (Fk37 k)), (71, .pure F71)]
noncomputable def O37 : Nat → List DI := ordL [(6, [.q 0, .q 1, .q 2, .q 3, .q 4, .q 5, .q 6, .q 7]), (9, [.q 0, .q 1, .q 2, .q 3, .q 4, .q 5, .q 6, .q 7, .q 8, .q 9, .q 10, .q 11, .q 12, .q 13, .q 14, .q 15]), (10, [.q 0, .q 1, .q 2, .q 3, .q 4, .q 6, .q 7, .q 8, .q 9, .q 10, .q 11, .q 12, .q 13, .q 14, .q 15, .q 16, .l 5 [7, 9, 10, 12, 14, 15, 16], .l 17 [], .q 18])]
theorem a37 (k : Nat) (x : Sh) (n : Nd) (hm : m37 x n < k + 1) (hb : BdAs [.st (shC x), .st (ndC n)]) (ho : o37 x n) (K : AV → List AV → Prop) (hK : K (v37 x n) []) : abody (E37 k) O37 .ps Tryd.f37 (Tryd.f37.body.getD .skip) [.st (shC x), .st (ndC n)] K := by
  simp only [BdAs, BdA, BdL, BdC, MX, ndC, shC, itC, stC, opC, chC, nwC, flC, rqC, rsC, enc, List.cons_append, List.nil_append, and_true, true_and] at hb
  unfold o37 at ho
  unfold v37 at hK
  unfold m37 at hm
  obtain ⟨⟨hx, hn⟩, hs⟩ := ho
  have hm2 := misM_eq x n
  have htp := top_facts (okS_top hx)
  conv => whnf
  repeat' first
    | (refine Cnd.mk (fun h => ?_) (fun h => ?_) <;> (try simp [nd_eta, sh_eta, it_eta, sto_eta, op_eta, ch_eta, nw_eta, fl_eta, rq_eta, rs_eta, elDef, -List.getD_eq_getElem?_getD] at h) <;> conv => whnf)
    | (refine Obl.mk (by first | omega | rfl | exact inK_byte _ | (simp only [inK, Int.toNat_natCast, nd_eta, sh_eta, it_eta, sto_eta, op_eta, ch_eta, nw_eta, fl_eta, rq_eta, rs_eta, elDef, m37, o36, m36, o37, m37, o71] <;> first | omega | grind) | grind [inK, m37, o36, m36, o37, m37, o71]) ?_ <;> conv => whnf)
    | (refine OblG.mk (by conv => whnf
                          repeat (first | (refine Bx.mk ?_) | (intro h; (try simp [nd_eta, sh_eta, it_eta, sto_eta, op_eta, ch_eta, nw_eta, fl_eta, rq_eta, rs_eta, elDef, -List.getD_eq_getElem?_getD] at h); conv => whnf))
                          first | omega | rfl | exact inK_byte _ | (simp only [inK, Int.toNat_natCast, nd_eta, sh_eta, it_eta, sto_eta, op_eta, ch_eta, nw_eta, fl_eta, rq_eta, rs_eta, elDef, m37, o36, m36, o37, m37, o71] <;> first | omega | grind) | grind [inK, m37, o36, m36, o37, m37, o71]) ?_ <;> conv => whnf)
    | (refine Gd.mk (fun h => ?_) <;> (try simp [nd_eta, sh_eta, it_eta, sto_eta, op_eta, ch_eta, nw_eta, fl_eta, rq_eta, rs_eta, elDef, -List.getD_eq_getElem?_getD] at h) <;> conv => whnf)
    | (refine And.intro ?_ ?_ <;> conv => whnf)
    | exact True.intro
    | (intro; conv => whnf)
  · have : ¬ x.kind = n.kind := fun e => h.2 e.symm
    exact leafV hK (by rw [hm2, if_neg h.1, if_neg this]; rfl)
  · have h0 : misM x n = misK x n 0 := by
      rw [hm2]
      by_cases hk : x.kind = 0
      · have : x.names.length = 0 := by omega
        rw [if_pos hk, misK_end (by omega)]
      · rw [if_neg hk, if_pos (h hk).symm]; rfl
    refine aloop_intro Nat (fun k => k ≤ x.names.length ∧ misM x n = misK x n k) (fun k => x.names.length - k) (fun k => [(5, .int .i64 k)]) (fun k => []) [2, 3] 0 [] [] ?_ ?_ (by exact sgOk_of (by rfl)) ?_
    · first | (simp; done) | (simp; assumption)
    · (conv => whnf); (repeat' (first | exact trivial | rfl | (refine nilEq ?_; first | rfl | (simp only [*]; done) | (simp [*]; done) | grind) | apply And.intro | ((first | refine intEq ?_ | refine boolEq ?_ | refine strEq ?_ | refine psEq ?_ | refine nilEq ?_ | refine arrEq ?_); (try simp only [Int.toNat_natCast, nd_eta, sh_eta, it_eta, sto_eta, op_eta, ch_eta, nw_eta, fl_eta, rq_eta, rs_eta, elDef]); first | done | omega | grind | (simp only [*]; done) | (simp [*]; done)))); (all_goals (conv => whnf)); (repeat' (first | exact trivial | rfl | (refine nilEq ?_; first | rfl | (simp only [*]; done) | (simp [*]; done) | grind) | apply And.intro | ((first | refine intEq ?_ | refine boolEq ?_ | refine strEq ?_ | refine psEq ?_ | refine nilEq ?_ | refine arrEq ?_); (try simp only [Int.toNat_natCast, nd_eta, sh_eta, it_eta, sto_eta, op_eta, ch_eta, nw_eta, fl_eta, rq_eta, rs_eta, elDef]); first | done | omega | grind | (simp only [*]; done) | (simp [*]; done)) | ((try simp only [Int.toNat_natCast, nd_eta, sh_eta, it_eta, sto_eta, op_eta, ch_eta, nw_eta, fl_eta, rq_eta, rs_eta, elDef]); first | done | omega | grind | (simp only [*]; done) | (simp [*]; done))))
    rintro i ⟨hi, hj⟩
    conv => whnf
    have hst := fun h => misK_step (x := x) (n := n) (i := i) h htp.2.2.2.2.1 htp.2.2.2.2.2
    have hen := fun h => misK_end (x := x) (n := n) (i := i) h
    have hpl := placeM_ge n (x.names.getD i [])
    have hks := fun (h : i < x.kids.length) => kidS_size h
    have hko := fun (h : i < x.kids.length) => okS_kid hx h
    have hkn := fun (h : (placeM n (x.names.getD i [])).toNat < n.kids.length) => okN_kid hn h
    have h55 := fun (h : i < x.kids.length) => mis_five (n := n.kids.getD (placeM n (x.names.getD i [])).toNat default) (okS_kid hx h)
    have hnk := okN_kids hn
    have hnn := (okN_names hn).2.1
    repeat' first
      | (refine Cnd.mk (fun h => ?_) (fun h => ?_) <;> (try simp [nd_eta, sh_eta, it_eta, sto_eta, op_eta, ch_eta, nw_eta, fl_eta, rq_eta, rs_eta, elDef, -List.getD_eq_getElem?_getD] at h) <;> conv => whnf)
      | (refine Obl.mk (by first | omega | rfl | exact inK_byte _ | (simp only [inK, Int.toNat_natCast, nd_eta, sh_eta, it_eta, sto_eta, op_eta, ch_eta, nw_eta, fl_eta, rq_eta, rs_eta, elDef, m37, o36, m36, o37, m37, o71] <;> first | omega | grind) | grind [inK, m37, o36, m36, o37, m37, o71]) ?_ <;> conv => whnf)
      | (refine OblG.mk (by conv => whnf
                            repeat (first | (refine Bx.mk ?_) | (intro h; (try simp [nd_eta, sh_eta, it_eta, sto_eta, op_eta, ch_eta, nw_eta, fl_eta, rq_eta, rs_eta, elDef, -List.getD_eq_getElem?_getD] at h); conv => whnf))
                            first | omega | rfl | exact inK_byte _ | (simp only [inK, Int.toNat_natCast, nd_eta, sh_eta, it_eta, sto_eta, op_eta, ch_eta, nw_eta, fl_eta, rq_eta, rs_eta, elDef, m37, o36, m36, o37, m37, o71] <;> first | omega | grind) | grind [inK, m37, o36, m36, o37, m37, o71]) ?_ <;> conv => whnf)
      | (refine Gd.mk (fun h => ?_) <;> (try simp [nd_eta, sh_eta, it_eta, sto_eta, op_eta, ch_eta, nw_eta, fl_eta, rq_eta, rs_eta, elDef, -List.getD_eq_getElem?_getD] at h) <;> conv => whnf)
      | (refine And.intro ?_ ?_ <;> conv => whnf)
      | exact True.intro
      | (intro; conv => whnf)
    · rename_i h1
      exact leafV hK (by rw [hj, hst h1, if_pos h.1, if_pos h.2]; simp only [Int.toNat_natCast, elDef]; rfl)
    · rename_i h1 h2
      obtain ⟨q, hq⟩ := Option.isSome_iff_exists.1 h.2
      exact leafV hK (by rw [hj, hst h1, if_neg (by omega), hq]; simp only [Int.toNat_natCast, elDef, sh_eta, nd_eta, hq]; rfl)
    · rename_i h1 h2
      refine ⟨i + 1, [], [], ⟨by omega, ?_⟩, by omega, by (conv => whnf); (repeat' (first | exact trivial | rfl | (refine nilEq ?_; first | rfl | (simp only [*]; done) | (simp [*]; done) | grind) | apply And.intro | ((first | refine intEq ?_ | refine boolEq ?_ | refine strEq ?_ | refine psEq ?_ | refine nilEq ?_ | refine arrEq ?_); (try simp only [Int.toNat_natCast, nd_eta, sh_eta, it_eta, sto_eta, op_eta, ch_eta, nw_eta, fl_eta, rq_eta, rs_eta, elDef]); first | done | omega | grind | (simp only [*]; done) | (simp [*]; done)))); (all_goals (conv => whnf)); (repeat' (first | exact trivial | rfl | (refine nilEq ?_; first | rfl | (simp only [*]; done) | (simp [*]; done) | grind) | apply And.intro | ((first | refine intEq ?_ | refine boolEq ?_ | refine strEq ?_ | refine psEq ?_ | refine nilEq ?_ | refine arrEq ?_); (try simp only [Int.toNat_natCast, nd_eta, sh_eta, it_eta, sto_eta, op_eta, ch_eta, nw_eta, fl_eta, rq_eta, rs_eta, elDef]); first | done | omega | grind | (simp only [*]; done) | (simp [*]; done)) | ((try simp only [Int.toNat_natCast, nd_eta, sh_eta, it_eta, sto_eta, op_eta, ch_eta, nw_eta, fl_eta, rq_eta, rs_eta, elDef]); first | done | omega | grind | (simp only [*]; done) | (simp [*]; done)))), (by exact sgOk_of (by rfl))⟩
      rw [hj, hst h1]
      by_cases hp : placeM n (x.names.getD i []) < 0
      · rw [if_pos hp, if_neg (by rw [h2 hp]; simp)]
      · rw [if_neg hp, h (by omega)]
    · rw [hj, hen (by omega)] at hs; cases hs
theorem r37 : ∀ k, (CtrOK Tryd.prog 37 (.pure (Fk37 k)) ∧ Callable Tryd.prog 37) := by
  intro k
  induction k with
  | zero =>
    exact ⟨⟨fun args o v h => by unfold Fk37 at h; split at h <;> cases h; first | trivial | (simp [v37, Scalar, Scalar2, Scalar1, stC, ndC, itC, chC, nwC]), fun args K h => by
        unfold pureC Fk37 at h; split at h
        · rename_i h1; split at h1 <;> cases h1; exact absurd (h.1 _ rfl).1 (Nat.not_lt_zero _)
        · exact h.elim⟩, callable Tryd.func37 rfl (by rfl)⟩
  | succ k ih =>
    refine pure_ok (E := E37 k) (mkE_cons s36 (mkE_cons ih (mkE_cons s71 (mkE_nil tab_ok)))) mix (O := O37) (F := (Fk37 (k + 1))) Tryd.func37 rfl (by rfl) (by kernel_rfl) (fun args o v h => ?_) (fun args o v h => ?_) (fun args o v h hbd hp K hK => ?_)
    · unfold Fk37 at h; split at h <;> cases h; first | trivial | (simp [v37, Scalar, Scalar2, Scalar1, stC, ndC, itC, chC, nwC])
    · unfold Fk37 at h; split at h <;> cases h; exact Nat.le_of_ble_eq_true rfl
    · unfold Fk37 at h; split at h
      case h_2 => cases h
      cases h
      exact a37 k ⟨_, _, _, _⟩ ⟨_, _, _, _, _⟩ (hp _ rfl).1 (by exact hbd) (hp _ rfl).2 K hK
theorem s37 : (CtrOK Tryd.prog 37 (.pure F37) ∧ Callable Tryd.prog 37) := by
  refine ⟨⟨fun args o v h => ?_, fun args K h => ?_⟩, (r37 0).2⟩
  · unfold F37 at h; split at h <;> cases h; first | trivial | (simp [v37, Scalar, Scalar2, Scalar1, stC, ndC, itC, chC, nwC])
  · unfold pureC F37 at h; split at h
    · rename_i h1; split at h1 <;> cases h1
      exact (r37 (m37 ⟨_, _, _, _⟩ ⟨_, _, _, _, _⟩ + 1)).1.2 _ K ⟨fun p hp => by cases hp; exact ⟨Nat.lt_succ_self _, (h.1 _ rfl)⟩, h.2⟩
    · exact h.elim
noncomputable def c11 (x : Sh) (n : Nd) (K : AV → List AV → Prop) : Prop :=
    K (.tup [.ps .str ((firstM x n).getD []), .bool (firstM x n).isSome]) []
noncomputable def C11 : List AV → (AV → List AV → Prop) → Prop
  | [.st [.int .i64 x_0, .ps .str x_1, .ps .bool x_2, .ps .shape x_3], .st [.int .i64 n_0, .int .i64 n_1, .str n_2, .ps .str n_3, .ps .node n_4]], K => c11 ⟨x_0, x_1, x_2, x_3⟩ ⟨n_0, n_1, n_2, n_3, n_4⟩ K
  | _, _ => False
noncomputable def E11 : Ctx := mkE tab [(32, .pure F32), (33, .pure F33), (34, .gen .ps C34)]
noncomputable def O11 : Nat → List DI := ordL []
theorem a11 (x : Sh) (n : Nd) (hb : BdAs [.st (shC x), .st (ndC n)]) (K : AV → List AV → Prop) (h : c11 x n K) : abody E11 O11 .ps Tryd.f11 (Tryd.f11.body.getD .skip) [.st (shC x), .st (ndC n)] K := by
  simp only [BdAs, BdA, BdL, BdC, MX, ndC, shC, itC, stC, opC, chC, nwC, flC, rqC, rsC, enc, List.cons_append, List.nil_append, and_true, true_and] at hb
  unfold c11 at h
  have hK := h
  have h1 := fun h => validS_ok (x := x) h
  have h2 := fun h => validM_ok (n := n) h
  conv => whnf
  repeat' first
    | (refine Cnd.mk (fun h => ?_) (fun h => ?_) <;> (try simp [nd_eta, sh_eta, it_eta, sto_eta, op_eta, ch_eta, nw_eta, fl_eta, rq_eta, rs_eta, elDef, -List.getD_eq_getElem?_getD] at h) <;> conv => whnf)
    | (refine Obl.mk (by first | omega | rfl | exact inK_byte _ | (simp only [inK, Int.toNat_natCast, nd_eta, sh_eta, it_eta, sto_eta, op_eta, ch_eta, nw_eta, fl_eta, rq_eta, rs_eta, elDef, m34] <;> first | omega | grind) | grind [inK, m34]) ?_ <;> conv => whnf)
    | (refine OblG.mk (by conv => whnf
                          repeat (first | (refine Bx.mk ?_) | (intro h; (try simp [nd_eta, sh_eta, it_eta, sto_eta, op_eta, ch_eta, nw_eta, fl_eta, rq_eta, rs_eta, elDef, -List.getD_eq_getElem?_getD] at h); conv => whnf))
                          first | omega | rfl | exact inK_byte _ | (simp only [inK, Int.toNat_natCast, nd_eta, sh_eta, it_eta, sto_eta, op_eta, ch_eta, nw_eta, fl_eta, rq_eta, rs_eta, elDef, m34] <;> first | omega | grind) | grind [inK, m34]) ?_ <;> conv => whnf)
    | (refine Gd.mk (fun h => ?_) <;> (try simp [nd_eta, sh_eta, it_eta, sto_eta, op_eta, ch_eta, nw_eta, fl_eta, rq_eta, rs_eta, elDef, -List.getD_eq_getElem?_getD] at h) <;> conv => whnf)
    | (refine And.intro ?_ ?_ <;> conv => whnf)
    | exact True.intro
    | (intro; conv => whnf)
  · have e : firstM x n = none := by unfold firstM; rw [if_neg (by simp; grind)]
    exact leafV hK (by rw [e]; rfl)
  · have e : firstM x n = misM x n := by unfold firstM; rw [if_pos (by simp [h.1, h.2])]
    exact leafV hK (by simp only [e, sh_eta, nd_eta])
theorem s11 : (CtrOK Tryd.prog 11 (.gen .ps C11) ∧ Callable Tryd.prog 11) := by
  refine gen_ok (E := E11) (mkE_cons s32 (mkE_cons s33 (mkE_cons s34 (mkE_nil tab_ok)))) mix (O := O11) (C := C11) (own := .ps) Tryd.func11 rfl (by rfl) (by kernel_rfl) (fun args K h hbd => ?_)
  unfold C11 at h; split at h
  case h_2 => exact h.elim
  exact ⟨Nat.le_of_ble_eq_true rfl, a11 ⟨_, _, _, _⟩ ⟨_, _, _, _, _⟩ (by exact hbd) _ h⟩
noncomputable def v16 (x : Sh) (n : Nd) : AV := .bool (validS x && validM n && !(misM x n).isSome)
noncomputable def o16 (x : Sh) (n : Nd) : Prop := True
noncomputable def F16 : List AV → QR
  | [.st [.int .i64 x_0, .ps .str x_1, .ps .bool x_2, .ps .shape x_3], .st [.int .i64 n_0, .int .i64 n_1, .str n_2, .ps .str n_3, .ps .node n_4]] => some (none, v16 ⟨x_0, x_1, x_2, x_3⟩ ⟨n_0, n_1, n_2, n_3, n_4⟩)
  | _ => none
noncomputable def E16 : Ctx := mkE tab [(32, .pure F32), (33, .pure F33), (34, .gen .ps C34)]
noncomputable def O16 : Nat → List DI := ordL []
theorem a16 (x : Sh) (n : Nd) (hb : BdAs [.st (shC x), .st (ndC n)]) (ho : o16 x n) (K : AV → List AV → Prop) (hK : K (v16 x n) []) : abody E16 O16 .ps Tryd.f16 (Tryd.f16.body.getD .skip) [.st (shC x), .st (ndC n)] K := by
  simp only [BdAs, BdA, BdL, BdC, MX, ndC, shC, itC, stC, opC, chC, nwC, flC, rqC, rsC, enc, List.cons_append, List.nil_append, and_true, true_and] at hb
  unfold v16 at hK
  have h1 := fun h => validS_ok (x := x) h
  have h2 := fun h => validM_ok (n := n) h
  conv => whnf
  repeat' first
    | (refine Cnd.mk (fun h => ?_) (fun h => ?_) <;> (try simp [nd_eta, sh_eta, it_eta, sto_eta, op_eta, ch_eta, nw_eta, fl_eta, rq_eta, rs_eta, elDef, -List.getD_eq_getElem?_getD] at h) <;> conv => whnf)
    | (refine Obl.mk (by first | omega | rfl | exact inK_byte _ | (simp only [inK, Int.toNat_natCast, nd_eta, sh_eta, it_eta, sto_eta, op_eta, ch_eta, nw_eta, fl_eta, rq_eta, rs_eta, elDef, m34] <;> first | omega | grind) | grind [inK, m34]) ?_ <;> conv => whnf)
    | (refine OblG.mk (by conv => whnf
                          repeat (first | (refine Bx.mk ?_) | (intro h; (try simp [nd_eta, sh_eta, it_eta, sto_eta, op_eta, ch_eta, nw_eta, fl_eta, rq_eta, rs_eta, elDef, -List.getD_eq_getElem?_getD] at h); conv => whnf))
                          first | omega | rfl | exact inK_byte _ | (simp only [inK, Int.toNat_natCast, nd_eta, sh_eta, it_eta, sto_eta, op_eta, ch_eta, nw_eta, fl_eta, rq_eta, rs_eta, elDef, m34] <;> first | omega | grind) | grind [inK, m34]) ?_ <;> conv => whnf)
    | (refine Gd.mk (fun h => ?_) <;> (try simp [nd_eta, sh_eta, it_eta, sto_eta, op_eta, ch_eta, nw_eta, fl_eta, rq_eta, rs_eta, elDef, -List.getD_eq_getElem?_getD] at h) <;> conv => whnf)
    | (refine And.intro ?_ ?_ <;> conv => whnf)
    | exact True.intro
    | (intro; conv => whnf)
  · refine leafB hK ?_
    rcases h with h | h <;> simp [h]
  · refine leafB hK ?_
    simp only [sh_eta, nd_eta, h.1, h.2, Bool.true_and]
theorem s16 : (CtrOK Tryd.prog 16 (.pure F16) ∧ Callable Tryd.prog 16) := by
  refine pure_ok (E := E16) (mkE_cons s32 (mkE_cons s33 (mkE_cons s34 (mkE_nil tab_ok)))) mix (O := O16) (F := F16) Tryd.func16 rfl (by rfl) (by kernel_rfl) (fun args o v h => ?_) (fun args o v h => ?_) (fun args o v h hbd hp K hK => ?_)
  · unfold F16 at h; split at h <;> cases h; first | trivial | (simp [v16, Scalar, Scalar2, Scalar1, stC, ndC, itC, chC, nwC])
  · unfold F16 at h; split at h <;> cases h; exact Nat.le_of_ble_eq_true rfl
  · unfold F16 at h; split at h
    case h_2 => cases h
    cases h
    exact a16 ⟨_, _, _, _⟩ ⟨_, _, _, _, _⟩ (by exact hbd) trivial K hK
noncomputable def c12 (x : Sh) (n : Nd) (K : AV → List AV → Prop) : Prop :=
    Obl (smN n) (K (.tup [.ps .str ((firstM x n).getD []), .bool (firstM x n).isSome]) [])
noncomputable def C12 : List AV → (AV → List AV → Prop) → Prop
  | [.st [.int .i64 x_0, .ps .str x_1, .ps .bool x_2, .ps .shape x_3], .st [.int .i64 n_0, .int .i64 n_1, .str n_2, .ps .str n_3, .ps .node n_4]], K => c12 ⟨x_0, x_1, x_2, x_3⟩ ⟨n_0, n_1, n_2, n_3, n_4⟩ K
  | _, _ => False
noncomputable def E12 : Ctx := mkE tab [(30, .pure F30), (35, .pure F35), (36, .pure F36), (37, .pure F37)]
noncomputable def O12 : Nat → List DI := ordL []
theorem a12 (x : Sh) (n : Nd) (hb : BdAs [.st (shC x), .st (ndC n)]) (K : AV → List AV → Prop) (h : c12 x n K) : abody E12 O12 .ps Tryd.f12 (Tryd.f12.body.getD .skip) [.st (shC x), .st (ndC n)] K := by
  simp only [BdAs, BdA, BdL, BdC, MX, ndC, shC, itC, stC, opC, chC, nwC, flC, rqC, rsC, enc, List.cons_append, List.nil_append, and_true, true_and] at hb
  unfold c12 at h
  obtain ⟨hs, hK⟩ := h
  have h1 := fun h => validS_ok (x := x) h
  have h2 := fun h => validM_ok (n := n) h
  have h3 : validS x = shpM 5 x := rfl
  conv => whnf
  repeat' first
    | (refine Cnd.mk (fun h => ?_) (fun h => ?_) <;> (try simp [nd_eta, sh_eta, it_eta, sto_eta, op_eta, ch_eta, nw_eta, fl_eta, rq_eta, rs_eta, elDef, -List.getD_eq_getElem?_getD] at h) <;> conv => whnf)
    | (refine Obl.mk (by first | omega | rfl | exact inK_byte _ | (simp only [inK, Int.toNat_natCast, nd_eta, sh_eta, it_eta, sto_eta, op_eta, ch_eta, nw_eta, fl_eta, rq_eta, rs_eta, elDef, o35, m35, o36, m36, o37, m37] <;> first | omega | grind) | grind [inK, o35, m35, o36, m36, o37, m37]) ?_ <;> conv => whnf)
    | (refine OblG.mk (by conv => whnf
                          repeat (first | (refine Bx.mk ?_) | (intro h; (try simp [nd_eta, sh_eta, it_eta, sto_eta, op_eta, ch_eta, nw_eta, fl_eta, rq_eta, rs_eta, elDef, -List.getD_eq_getElem?_getD] at h); conv => whnf))
                          first | omega | rfl | exact inK_byte _ | (simp only [inK, Int.toNat_natCast, nd_eta, sh_eta, it_eta, sto_eta, op_eta, ch_eta, nw_eta, fl_eta, rq_eta, rs_eta, elDef, o35, m35, o36, m36, o37, m37] <;> first | omega | grind) | grind [inK, o35, m35, o36, m36, o37, m37]) ?_ <;> conv => whnf)
    | (refine Gd.mk (fun h => ?_) <;> (try simp [nd_eta, sh_eta, it_eta, sto_eta, op_eta, ch_eta, nw_eta, fl_eta, rq_eta, rs_eta, elDef, -List.getD_eq_getElem?_getD] at h) <;> conv => whnf)
    | (refine And.intro ?_ ?_ <;> conv => whnf)
    | exact True.intro
    | (intro; conv => whnf)
  · have e : firstM x n = none := by
      unfold firstM validS
      split
      · rename_i h4
        rw [Bool.and_eq_true] at h4
        rcases h with (h | h) | h
        · have h5 : shpM 5 x = false := h
          rw [h5] at h4; cases h4.1
        · rw [h] at h4; cases h4.2
        · exact h
      · rfl
    exact leafV hK (by rw [e]; rfl)
  · have e : firstM x n = misM x n := by
      unfold firstM validS
      rw [if_pos]
      rw [Bool.and_eq_true]
      exact h.1
    exact leafV hK (by rw [e]; simp only [sh_eta, nd_eta, h.2])
theorem s12 : (CtrOK Tryd.prog 12 (.gen .ps C12) ∧ Callable Tryd.prog 12) := by
  refine gen_ok (E := E12) (mkE_cons s30 (mkE_cons s35 (mkE_cons s36 (mkE_cons s37 (mkE_nil tab_ok))))) mix (O := O12) (C := C12) (own := .ps) Tryd.func12 rfl (by rfl) (by kernel_rfl) (fun args K h hbd => ?_)
  unfold C12 at h; split at h
  case h_2 => exact h.elim
  exact ⟨Nat.le_of_ble_eq_true rfl, a12 ⟨_, _, _, _⟩ ⟨_, _, _, _, _⟩ (by exact hbd) _ h⟩
end Go.Rs

