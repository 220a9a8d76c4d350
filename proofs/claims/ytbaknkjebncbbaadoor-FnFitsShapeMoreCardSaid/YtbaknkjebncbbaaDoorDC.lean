import Derived.Test.YtbaknkjebncbbaaDoorCQ
import Derived.Test.YtbaknkjebncbbaaDoorCP
import Derived.Test.YtbaknkjebncbbaaDoorMD
set_option linter.all false
namespace Go.Rs
open Go.Proofs
set_option maxRecDepth 100000
set_option linter.unusedVariables false
set_option linter.unusedSimpArgs false
theorem shp_lvl {lvl : Int} (h1 : 1 ≤ lvl) (h2 : lvl ≤ 5) (x : Sh) : shpM (6 - lvl).toNat x = (topS x && x.kids.all (shpM (5 - lvl).toNat)) := by
  have : (6 - lvl).toNat = (5 - lvl).toNat + 1 := by omega
  rw [this, shpM]
theorem shp_nxt (lvl : Int) (x : Sh) : shpM (6 - (lvl + 1)).toNat x = shpM (5 - lvl).toNat x := by
  congr 1; omega
noncomputable def v55 (x : Sh) (lvl : Int) : AV := .bool (shpM (6 - lvl).toNat x)
noncomputable def o55 (x : Sh) (lvl : Int) : Prop := 1 ≤ lvl ∧ lvl ≤ 6
noncomputable def m55 (x : Sh) (lvl : Int) : Nat := SizeOf.sizeOf x
noncomputable def F55 : List AV → QR
  | [.st [.int .i64 x_0, .ps .str x_1, .ps .bool x_2, .ps .shape x_3], .int .i64 lvl] => some (some (o55 ⟨x_0, x_1, x_2, x_3⟩ lvl), v55 ⟨x_0, x_1, x_2, x_3⟩ lvl)
  | _ => none
noncomputable def Fk55 (k : Nat) : List AV → QR
  | [.st [.int .i64 x_0, .ps .str x_1, .ps .bool x_2, .ps .shape x_3], .int .i64 lvl] => some (some (m55 ⟨x_0, x_1, x_2, x_3⟩ lvl < k ∧ o55 ⟨x_0, x_1, x_2, x_3⟩ lvl), v55 ⟨x_0, x_1, x_2, x_3⟩ lvl)
  | _ => none
noncomputable def E55 (k : Nat) : Ctx := mkE tab [(55, .pure (Fk55 k)), (75, .pure F75)]
noncomputable def O55 : Nat → List DI := ordL []
theorem a55 (k : Nat) (x : Sh) (lvl : Int) (hm : m55 x lvl < k + 1) (hb : BdAs [.st (shC x), .int .i64 lvl]) (ho : o55 x lvl) (K : AV → List AV → Prop) (hK : K (v55 x lvl) []) : abody (E55 k) O55 .ps Tryd.f55 (Tryd.f55.body.getD .skip) [.st (shC x), .int .i64 lvl] K := by
  simp only [BdAs, BdA, BdL, BdC, MX, ndC, shC, itC, stC, opC, chC, nwC, flC, rqC, rsC, enc, List.cons_append, List.nil_append, and_true, true_and] at hb
  unfold o55 at ho
  unfold v55 at hK
  unfold m55 at hm
  have hkid := fun j (h : j < x.kids.length) => kidS_size h
  have hn := shp_nxt lvl
  have h6 : 5 < lvl → shpM (6 - lvl).toNat x = false := fun h => by
    have : (6 - lvl).toNat = 0 := by omega
    rw [this]; rfl
  have he := fun h => shp_lvl ho.1 h x
  have ht : topS x = (decide (0 ≤ x.kind) && decide (x.kind ≤ 4) && areNamesM x.names && (decide (x.names.length = 0) || decide (x.kind = 4)) && decide (x.needs.length = x.names.length) && decide (x.kids.length = x.names.length)) := rfl
  conv => whnf
  repeat' first
    | (refine Cnd.mk (fun h => ?_) (fun h => ?_) <;> (try simp [etas, elDef, -List.getD_eq_getElem?_getD] at h) <;> conv => whnf)
    | (refine Obl.mk (by first | omega | rfl | exact inK_byte _ | (simp only [inK, Int.toNat_natCast, etas, elDef, m55, o55, m55] <;> first | omega | grind) | grind [inK, m55, o55, m55]) ?_ <;> conv => whnf)
    | (refine OblG.mk (by conv => whnf
                          repeat (first | (refine Bx.mk ?_) | (intro h; (try simp [etas, elDef, -List.getD_eq_getElem?_getD] at h); conv => whnf))
                          first | omega | rfl | exact inK_byte _ | (simp only [inK, Int.toNat_natCast, etas, elDef, m55, o55, m55] <;> first | omega | grind) | grind [inK, m55, o55, m55]) ?_ <;> conv => whnf)
    | (refine Gd.mk (fun h => ?_) <;> (try simp [etas, elDef, -List.getD_eq_getElem?_getD] at h) <;> conv => whnf)
    | (refine And.intro ?_ ?_ <;> conv => whnf)
    | exact True.intro
    | (intro; conv => whnf)
  · refine leafB hK ?_
    rcases Int.lt_or_le 5 lvl with h5 | h5
    · exact h6 h5
    · rw [he h5, ht]; simp; omega
  · rename_i h0
    refine leafB hK ?_
    rw [he h0.1.1, ht]
    rcases h with h | h
    · rw [h]; simp
    · have h1 : ¬ x.names.length = 0 := by omega
      simp [h1, h.2]
  · rename_i h0 h1
    refine leafB hK ?_
    rw [he h0.1.1, ht]
    rcases h with h | h
    · have h2 : ¬ x.needs.length = x.names.length := by omega
      simp [h2]
    · have h2 : ¬ x.kids.length = x.names.length := by omega
      simp [h2]
  · rename_i h0 h1
    have htt : topS x = true := by
      rw [ht]
      have h2 : x.needs.length = x.names.length := by omega
      have h3 : x.kids.length = x.names.length := by omega
      have h4 : x.names.length = 0 ∨ x.kind = 4 := by
        rcases Nat.eq_zero_or_pos x.names.length with h | h
        · exact .inl h
        · exact .inr (h1.2 h)
      simp only [h0.1.2, h0.2, h1.1, h2, h3, decide_true, Bool.and_true, Bool.true_and]
      rcases h4 with h4 | h4 <;> simp [h4]
    rw [he h0.1.1, htt, Bool.true_and] at hK
    refine aloop_intro Nat (fun k => k ≤ x.kids.length ∧ ∀ j, j < k → shpM (5 - lvl).toNat (x.kids.getD j default) = true) (fun k => x.kids.length - k) (fun k => [(53, .int .i64 k)]) (fun k => []) [2] 0 [] [] ?_ ?_ (by exact sgOk_of (by rfl)) ?_
    · first | (simp; done) | (simp; assumption)
    · (conv => whnf); (repeat' (first | exact trivial | rfl | (refine nilEq ?_; first | rfl | (simp only [*]; done) | (simp [*]; done) | grind) | apply And.intro | ((first | refine intEq ?_ | refine boolEq ?_ | refine strEq ?_ | refine psEq ?_ | refine nilEq ?_ | refine arrEq ?_); (try simp only [Int.toNat_natCast, etas, elDef]); first | done | omega | grind | (simp only [*]; done) | (simp [*]; done)))); (all_goals (conv => whnf)); (repeat' (first | exact trivial | rfl | (refine nilEq ?_; first | rfl | (simp only [*]; done) | (simp [*]; done) | grind) | apply And.intro | ((first | refine intEq ?_ | refine boolEq ?_ | refine strEq ?_ | refine psEq ?_ | refine nilEq ?_ | refine arrEq ?_); (try simp only [Int.toNat_natCast, etas, elDef]); first | done | omega | grind | (simp only [*]; done) | (simp [*]; done)) | ((try simp only [Int.toNat_natCast, etas, elDef]); first | done | omega | grind | (simp only [*]; done) | (simp [*]; done))))
    rintro i ⟨hi, hj⟩
    conv => whnf
    have hks := hkid i
    repeat' first
      | (refine Cnd.mk (fun h => ?_) (fun h => ?_) <;> (try simp [etas, elDef, -List.getD_eq_getElem?_getD] at h) <;> conv => whnf)
      | (refine Obl.mk (by first | omega | rfl | exact inK_byte _ | (simp only [inK, Int.toNat_natCast, etas, elDef, m55, o55, m55] <;> first | omega | grind) | grind [inK, m55, o55, m55]) ?_ <;> conv => whnf)
      | (refine OblG.mk (by conv => whnf
                            repeat (first | (refine Bx.mk ?_) | (intro h; (try simp [etas, elDef, -List.getD_eq_getElem?_getD] at h); conv => whnf))
                            first | omega | rfl | exact inK_byte _ | (simp only [inK, Int.toNat_natCast, etas, elDef, m55, o55, m55] <;> first | omega | grind) | grind [inK, m55, o55, m55]) ?_ <;> conv => whnf)
      | (refine Gd.mk (fun h => ?_) <;> (try simp [etas, elDef, -List.getD_eq_getElem?_getD] at h) <;> conv => whnf)
      | (refine And.intro ?_ ?_ <;> conv => whnf)
      | exact True.intro
      | (intro; conv => whnf)
    · rw [hn] at h
      exact leafB hK (allS_no (j := i) (by omega) h)
    · rw [hn] at h
      exact ⟨i + 1, [], [], ⟨by omega, fun j hj2 => by rcases Nat.lt_succ_iff_lt_or_eq.1 hj2 with h9 | h9; exact hj j h9; rw [h9]; exact h⟩, by omega, by (conv => whnf); (repeat' (first | exact trivial | rfl | (refine nilEq ?_; first | rfl | (simp only [*]; done) | (simp [*]; done) | grind) | apply And.intro | ((first | refine intEq ?_ | refine boolEq ?_ | refine strEq ?_ | refine psEq ?_ | refine nilEq ?_ | refine arrEq ?_); (try simp only [Int.toNat_natCast, etas, elDef]); first | done | omega | grind | (simp only [*]; done) | (simp [*]; done)))); (all_goals (conv => whnf)); (repeat' (first | exact trivial | rfl | (refine nilEq ?_; first | rfl | (simp only [*]; done) | (simp [*]; done) | grind) | apply And.intro | ((first | refine intEq ?_ | refine boolEq ?_ | refine strEq ?_ | refine psEq ?_ | refine nilEq ?_ | refine arrEq ?_); (try simp only [Int.toNat_natCast, etas, elDef]); first | done | omega | grind | (simp only [*]; done) | (simp [*]; done)) | ((try simp only [Int.toNat_natCast, etas, elDef]); first | done | omega | grind | (simp only [*]; done) | (simp [*]; done)))), (by exact sgOk_of (by rfl))⟩
    · exact leafB hK ((allS_iff _ _).2 fun j hj2 => hj j (by omega))
theorem r55 : ∀ k, (CtrOK Tryd.prog 55 (.pure (Fk55 k)) ∧ Callable Tryd.prog 55) := by
  intro k
  induction k with
  | zero =>
    exact ⟨⟨fun args o v h => by unfold Fk55 at h; split at h <;> cases h; first | trivial | (simp [v55, Scalar, Scalar2, Scalar1, stC, ndC, itC, chC, nwC]), fun args K h => by
        unfold pureC Fk55 at h; split at h
        · rename_i h1; split at h1 <;> cases h1; exact absurd (h.1 _ rfl).1 (Nat.not_lt_zero _)
        · exact h.elim⟩, callable Tryd.func55 rfl (by rfl)⟩
  | succ k ih =>
    refine pure_ok (E := E55 k) (mkE_cons ih (mkE_cons s75 (mkE_nil tab_ok))) mix (O := O55) (F := (Fk55 (k + 1))) Tryd.func55 rfl (by rfl) (by kernel_rfl) (fun args o v h => ?_) (fun args o v h => ?_) (fun args o v h hbd hp K hK => ?_)
    · unfold Fk55 at h; split at h <;> cases h; first | trivial | (simp [v55, Scalar, Scalar2, Scalar1, stC, ndC, itC, chC, nwC])
    · unfold Fk55 at h; split at h <;> cases h; exact Nat.le_of_ble_eq_true rfl
    · unfold Fk55 at h; split at h
      case h_2 => cases h
      cases h
      exact a55 k ⟨_, _, _, _⟩ _ (hp _ rfl).1 (by exact hbd) (hp _ rfl).2 K hK
theorem s55 : (CtrOK Tryd.prog 55 (.pure F55) ∧ Callable Tryd.prog 55) := by
  refine ⟨⟨fun args o v h => ?_, fun args K h => ?_⟩, (r55 0).2⟩
  · unfold F55 at h; split at h <;> cases h; first | trivial | (simp [v55, Scalar, Scalar2, Scalar1, stC, ndC, itC, chC, nwC])
  · unfold pureC F55 at h; split at h
    · rename_i h1; split at h1 <;> cases h1
      exact (r55 (m55 ⟨_, _, _, _⟩ _ + 1)).1.2 _ K ⟨fun p hp => by cases hp; exact ⟨Nat.lt_succ_self _, (h.1 _ rfl)⟩, h.2⟩
    · exact h.elim
noncomputable def v31 (x : Sh) : AV := .bool (validS x)
noncomputable def o31 (x : Sh) : Prop := True
noncomputable def F31 : List AV → QR
  | [.st [.int .i64 x_0, .ps .str x_1, .ps .bool x_2, .ps .shape x_3]] => some (none, v31 ⟨x_0, x_1, x_2, x_3⟩)
  | _ => none
noncomputable def E31 : Ctx := mkE tab [(55, .pure F55)]
noncomputable def O31 : Nat → List DI := ordL []
theorem a31 (x : Sh) (hb : BdAs [.st (shC x)]) (ho : o31 x) (K : AV → List AV → Prop) (hK : K (v31 x) []) : abody E31 O31 .ps Tryd.f31 (Tryd.f31.body.getD .skip) [.st (shC x)] K := by
  simp only [BdAs, BdA, BdL, BdC, MX, ndC, shC, itC, stC, opC, chC, nwC, flC, rqC, rsC, enc, List.cons_append, List.nil_append, and_true, true_and] at hb
  unfold v31 at hK
  conv => whnf
  repeat' first
    | (refine Cnd.mk (fun h => ?_) (fun h => ?_) <;> (try simp [etas, elDef, -List.getD_eq_getElem?_getD] at h) <;> conv => whnf)
    | (refine Obl.mk (by first | omega | rfl | exact inK_byte _ | (simp only [inK, Int.toNat_natCast, etas, elDef, o55, m55] <;> first | omega | grind) | grind [inK, o55, m55]) ?_ <;> conv => whnf)
    | (refine OblG.mk (by conv => whnf
                          repeat (first | (refine Bx.mk ?_) | (intro h; (try simp [etas, elDef, -List.getD_eq_getElem?_getD] at h); conv => whnf))
                          first | omega | rfl | exact inK_byte _ | (simp only [inK, Int.toNat_natCast, etas, elDef, o55, m55] <;> first | omega | grind) | grind [inK, o55, m55]) ?_ <;> conv => whnf)
    | (refine Gd.mk (fun h => ?_) <;> (try simp [etas, elDef, -List.getD_eq_getElem?_getD] at h) <;> conv => whnf)
    | (refine And.intro ?_ ?_ <;> conv => whnf)
    | exact True.intro
    | (intro; conv => whnf)
  exact leafB hK (by simp only [sh_eta]; rfl)
theorem s31 : (CtrOK Tryd.prog 31 (.pure F31) ∧ Callable Tryd.prog 31) := by
  refine pure_ok (E := E31) (mkE_cons s55 (mkE_nil tab_ok)) mix (O := O31) (F := F31) Tryd.func31 rfl (by rfl) (by kernel_rfl) (fun args o v h => ?_) (fun args o v h => ?_) (fun args o v h hbd hp K hK => ?_)
  · unfold F31 at h; split at h <;> cases h; first | trivial | (simp [v31, Scalar, Scalar2, Scalar1, stC, ndC, itC, chC, nwC])
  · unfold F31 at h; split at h <;> cases h; exact Nat.le_of_ble_eq_true rfl
  · unfold F31 at h; split at h
    case h_2 => cases h
    cases h
    exact a31 ⟨_, _, _, _⟩ (by exact hbd) trivial K hK
def nmInM (n : Nd) (b : Bs) : Option Nd := if n.kind = 4 ∧ ¬ placeM n b < 0 then some (n.kids.getD (placeM n b).toNat default) else none
noncomputable def c56 (n : Nd) (b : Bs) (K : AV → List AV → Prop) : Prop :=
    Obl (okN n) (K (optN (nmInM n b)) [])
noncomputable def C56 : List AV → (AV → List AV → Prop) → Prop
  | [.st [.int .i64 n_0, .int .i64 n_1, .str n_2, .ps .str n_3, .ps .node n_4], .str b], K => c56 ⟨n_0, n_1, n_2, n_3, n_4⟩ b K
  | _, _ => False
noncomputable def E56 : Ctx := mkE tab [(70, .pure F70)]
noncomputable def O56 : Nat → List DI := ordL []
theorem a56 (n : Nd) (b : Bs) (hb : BdAs [.st (ndC n), .str b]) (K : AV → List AV → Prop) (h : c56 n b K) : abody E56 O56 .ps Tryd.f56 (Tryd.f56.body.getD .skip) [.st (ndC n), .str b] K := by
  simp only [BdAs, BdA, BdL, BdC, MX, ndC, shC, itC, stC, opC, chC, nwC, flC, rqC, rsC, enc, List.cons_append, List.nil_append, and_true, true_and] at hb
  unfold c56 at h
  obtain ⟨hn, hK⟩ := h
  have hso : sortedI (nmI n.names) := by
    by_cases hk : n.kind = 4
    · exact okN_sorted hn hk
    · rw [(okN_names hn).2.2 hk]; intro i j _ h; simp [nmI] at h
  have hkm := fun hk => kid_map (b := b) hn hk
  have hno : n.kind ≠ 4 → foundI (nmI n.names) b = false := fun hk => by rw [(okN_names hn).2.2 hk]; rfl
  have hpl := placeM_ge n b
  conv => whnf
  repeat' first
    | (refine Cnd.mk (fun h => ?_) (fun h => ?_) <;> (try simp [etas, elDef, -List.getD_eq_getElem?_getD] at h) <;> conv => whnf)
    | (refine Obl.mk (by first | omega | rfl | exact inK_byte _ | (simp only [inK, Int.toNat_natCast, etas, elDef, o70] <;> first | omega | grind) | grind [inK, o70]) ?_ <;> conv => whnf)
    | (refine OblG.mk (by conv => whnf
                          repeat (first | (refine Bx.mk ?_) | (intro h; (try simp [etas, elDef, -List.getD_eq_getElem?_getD] at h); conv => whnf))
                          first | omega | rfl | exact inK_byte _ | (simp only [inK, Int.toNat_natCast, etas, elDef, o70] <;> first | omega | grind) | grind [inK, o70]) ?_ <;> conv => whnf)
    | (refine Gd.mk (fun h => ?_) <;> (try simp [etas, elDef, -List.getD_eq_getElem?_getD] at h) <;> conv => whnf)
    | (refine And.intro ?_ ?_ <;> conv => whnf)
    | exact True.intro
    | (intro; conv => whnf)
  · have e : nmInM n b = none := by unfold nmInM; rw [if_neg]; intro h2; have := (hkm h2.1).1; rw [h] at this; simp at this; omega
    exact leafV hK (by rw [e]; rfl)
  · have hk : n.kind = 4 := Classical.not_not.1 fun hk => by rw [hno hk] at h; cases h
    have h3 := (hkm hk).2 h
    have e : nmInM n b = some (n.kids.getD (lbI (nmI n.names) b) default) := by unfold nmInM; rw [if_pos ⟨hk, by omega⟩, h3]; simp
    exact leafV hK (by rw [e]; simp only [optN, ndC, Option.getD_some, Option.isSome_some, Int.toNat_natCast, elDef])
theorem s56 : (CtrOK Tryd.prog 56 (.gen .ps C56) ∧ Callable Tryd.prog 56) := by
  refine gen_ok (E := E56) (mkE_cons s70 (mkE_nil tab_ok)) mix (O := O56) (C := C56) (own := .ps) Tryd.func56 rfl (by rfl) (by kernel_rfl) (fun args K h hbd => ?_)
  unfold C56 at h; split at h
  case h_2 => exact h.elim
  exact ⟨Nat.le_of_ble_eq_true rfl, a56 ⟨_, _, _, _, _⟩ _ (by exact hbd) _ h⟩
noncomputable def c32 (x : Sh) (n : Nd) (K : AV → List AV → Prop) : Prop :=
    Obl (okS x ∧ okN n) (K (.tup [.ps .str ((misM x n).getD []), .bool (misM x n).isSome]) [])
noncomputable def m32 (x : Sh) (n : Nd) : Nat := SizeOf.sizeOf x
noncomputable def C32 : List AV → (AV → List AV → Prop) → Prop
  | [.st [.int .i64 x_0, .ps .str x_1, .ps .bool x_2, .ps .shape x_3], .st [.int .i64 n_0, .int .i64 n_1, .str n_2, .ps .str n_3, .ps .node n_4]], K => c32 ⟨x_0, x_1, x_2, x_3⟩ ⟨n_0, n_1, n_2, n_3, n_4⟩ K
  | _, _ => False
noncomputable def Ck32 (k : Nat) : List AV → (AV → List AV → Prop) → Prop
  | [.st [.int .i64 x_0, .ps .str x_1, .ps .bool x_2, .ps .shape x_3], .st [.int .i64 n_0, .int .i64 n_1, .str n_2, .ps .str n_3, .ps .node n_4]], K => Obl (m32 ⟨x_0, x_1, x_2, x_3⟩ ⟨n_0, n_1, n_2, n_3, n_4⟩ < k) (c32 ⟨x_0, x_1, x_2, x_3⟩ ⟨n_0, n_1, n_2, n_3, n_4⟩ K)
  | _, _ => False
noncomputable def E32 (k : Nat) : Ctx := mkE tab [(32, .gen .ps (Ck32 k)), (56, .gen .ps C56)]
noncomputable def O32 : Nat → List DI := ordL [(12, [.q 0, .q 1, .q 2, .q 3, .q 4, .q 5, .l 6 [], .q 7, .q 8, .q 9, .q 10, .q 11])]
theorem a32 (k : Nat) (x : Sh) (n : Nd) (hm : m32 x n < k + 1) (hb : BdAs [.st (shC x), .st (ndC n)]) (K : AV → List AV → Prop) (h : c32 x n K) : abody (E32 k) O32 .ps Tryd.f32 (Tryd.f32.body.getD .skip) [.st (shC x), .st (ndC n)] K := by
  simp only [BdAs, BdA, BdL, BdC, MX, ndC, shC, itC, stC, opC, chC, nwC, flC, rqC, rsC, enc, List.cons_append, List.nil_append, and_true, true_and] at hb
  unfold c32 at h
  unfold m32 at hm
  obtain ⟨⟨hx, hn⟩, hK⟩ := h
  have hm2 := misM_eq x n
  have htp := top_facts (okS_top hx)
  conv => whnf
  repeat' first
    | (refine Cnd.mk (fun h => ?_) (fun h => ?_) <;> (try simp [etas, elDef, -List.getD_eq_getElem?_getD] at h) <;> conv => whnf)
    | (refine Obl.mk (by first | omega | rfl | exact inK_byte _ | (simp only [inK, Int.toNat_natCast, etas, elDef, m32, m32] <;> first | omega | grind) | grind [inK, m32, m32]) ?_ <;> conv => whnf)
    | (refine OblG.mk (by conv => whnf
                          repeat (first | (refine Bx.mk ?_) | (intro h; (try simp [etas, elDef, -List.getD_eq_getElem?_getD] at h); conv => whnf))
                          first | omega | rfl | exact inK_byte _ | (simp only [inK, Int.toNat_natCast, etas, elDef, m32, m32] <;> first | omega | grind) | grind [inK, m32, m32]) ?_ <;> conv => whnf)
    | (refine Gd.mk (fun h => ?_) <;> (try simp [etas, elDef, -List.getD_eq_getElem?_getD] at h) <;> conv => whnf)
    | (refine And.intro ?_ ?_ <;> conv => whnf)
    | exact True.intro
    | (intro; conv => whnf)
  · exact leafV hK (by rw [hm2, if_pos (by assumption)]; rfl)
  · exact leafV hK (by rw [hm2, if_neg (by assumption), if_neg (by assumption)]; rfl)
  · rename_i hk0
    have h0 : misM x n = misK x n 0 := by rw [hm2, if_neg hk0, if_pos h]; rfl
    refine aloop_intro Nat (fun k => k ≤ x.names.length ∧ misM x n = misK x n k) (fun k => x.names.length - k) (fun k => [(23, .int .i64 k)]) (fun k => []) [2, 3] 0 [] [] ?_ ?_ (by exact sgOk_of (by rfl)) ?_
    · first | (simp; done) | (simp; assumption)
    · (conv => whnf); (repeat' (first | exact trivial | rfl | (refine nilEq ?_; first | rfl | (simp only [*]; done) | (simp [*]; done) | grind) | apply And.intro | ((first | refine intEq ?_ | refine boolEq ?_ | refine strEq ?_ | refine psEq ?_ | refine nilEq ?_ | refine arrEq ?_); (try simp only [Int.toNat_natCast, etas, elDef]); first | done | omega | grind | (simp only [*]; done) | (simp [*]; done)))); (all_goals (conv => whnf)); (repeat' (first | exact trivial | rfl | (refine nilEq ?_; first | rfl | (simp only [*]; done) | (simp [*]; done) | grind) | apply And.intro | ((first | refine intEq ?_ | refine boolEq ?_ | refine strEq ?_ | refine psEq ?_ | refine nilEq ?_ | refine arrEq ?_); (try simp only [Int.toNat_natCast, etas, elDef]); first | done | omega | grind | (simp only [*]; done) | (simp [*]; done)) | ((try simp only [Int.toNat_natCast, etas, elDef]); first | done | omega | grind | (simp only [*]; done) | (simp [*]; done))))
    rintro i ⟨hi, hj⟩
    conv => whnf
    have hst := fun h => misK_step (x := x) (n := n) (i := i) h htp.2.2.2.2.1 htp.2.2.2.2.2
    have hen := fun h => misK_end (x := x) (n := n) (i := i) h
    have hpl := placeM_ge n (x.names.getD i [])
    have hks := fun (h : i < x.kids.length) => kidS_size h
    have hko := fun (h : i < x.kids.length) => okS_kid hx h
    have hkn := fun (h : (placeM n (x.names.getD i [])).toNat < n.kids.length) => okN_kid hn h
    have hni : i < x.names.length → nmInM n (x.names.getD i []) = if placeM n (x.names.getD i []) < 0 then none else some (n.kids.getD (placeM n (x.names.getD i [])).toNat default) := fun hi2 => by
      have h4 : n.kind = 4 := by omega
      unfold nmInM
      by_cases hp : placeM n (x.names.getD i []) < 0
      · rw [if_neg (fun h => h.2 hp), if_pos hp]
      · rw [if_pos ⟨h4, hp⟩, if_neg hp]
    have h55 := fun (h : i < x.kids.length) => mis_five (n := (nmInM n (x.names.getD i [])).getD default) (okS_kid hx h)
    have hno := fun (h : i < x.names.length) (h2 : nmInM n (x.names.getD i []) = none) => (show placeM n (x.names.getD i []) < 0 by
      have h3 := hni h
      rw [h2] at h3
      split at h3
      · assumption
      · cases h3)
    have hye : ∀ (_ : i < x.names.length) (_ : (nmInM n (x.names.getD i [])).isSome = true), ¬ placeM n (x.names.getD i []) < 0 ∧ (nmInM n (x.names.getD i [])).getD default = n.kids.getD (placeM n (x.names.getD i [])).toNat default := fun h h2 => by
      have h3 := hni h
      rw [h3] at h2 ⊢
      split at h2
      · cases h2
      · rename_i hp; exact ⟨hp, by rw [if_neg hp]; rfl⟩
    have hoy : ∀ (_ : i < x.names.length) (_ : (nmInM n (x.names.getD i [])).isSome = true), okN ((nmInM n (x.names.getD i [])).getD default) := fun h h2 => by
      have h3 := hye h h2
      rw [h3.2]; exact hkn (by omega)
    repeat' first
      | (refine Cnd.mk (fun h => ?_) (fun h => ?_) <;> (try simp [etas, elDef, -List.getD_eq_getElem?_getD] at h) <;> conv => whnf)
      | (refine Obl.mk (by first | omega | rfl | exact inK_byte _ | (simp only [inK, Int.toNat_natCast, etas, elDef, m32, m32] <;> first | omega | grind) | grind [inK, m32, m32]) ?_ <;> conv => whnf)
      | (refine OblG.mk (by conv => whnf
                            repeat (first | (refine Bx.mk ?_) | (intro h; (try simp [etas, elDef, -List.getD_eq_getElem?_getD] at h); conv => whnf))
                            first | omega | rfl | exact inK_byte _ | (simp only [inK, Int.toNat_natCast, etas, elDef, m32, m32] <;> first | omega | grind) | grind [inK, m32, m32]) ?_ <;> conv => whnf)
      | (refine Gd.mk (fun h => ?_) <;> (try simp [etas, elDef, -List.getD_eq_getElem?_getD] at h) <;> conv => whnf)
      | (refine And.intro ?_ ?_ <;> conv => whnf)
      | exact True.intro
      | (intro; conv => whnf)
    · rename_i h1 h2
      have hp := hno h1 h2
      have e : misM x n = some [x.names.getD i []] := by rw [hj, hst h1, if_pos hp, if_pos h]
      exact leafV hK (by rw [e]; simp only [Int.toNat_natCast, elDef]; rfl)
    · rename_i h1 h2
      have hp := hno h1 h2
      exact ⟨i + 1, [], [], ⟨by omega, by rw [hj, hst h1, if_pos hp, if_neg (by rw [h]; simp)]⟩, by omega, by (conv => whnf); (repeat' (first | exact trivial | rfl | (refine nilEq ?_; first | rfl | (simp only [*]; done) | (simp [*]; done) | grind) | apply And.intro | ((first | refine intEq ?_ | refine boolEq ?_ | refine strEq ?_ | refine psEq ?_ | refine nilEq ?_ | refine arrEq ?_); (try simp only [Int.toNat_natCast, etas, elDef]); first | done | omega | grind | (simp only [*]; done) | (simp [*]; done)))); (all_goals (conv => whnf)); (repeat' (first | exact trivial | rfl | (refine nilEq ?_; first | rfl | (simp only [*]; done) | (simp [*]; done) | grind) | apply And.intro | ((first | refine intEq ?_ | refine boolEq ?_ | refine strEq ?_ | refine psEq ?_ | refine nilEq ?_ | refine arrEq ?_); (try simp only [Int.toNat_natCast, etas, elDef]); first | done | omega | grind | (simp only [*]; done) | (simp [*]; done)) | ((try simp only [Int.toNat_natCast, etas, elDef]); first | done | omega | grind | (simp only [*]; done) | (simp [*]; done)))), (by exact sgOk_of (by rfl))⟩
    · rename_i h1 h2
      obtain ⟨hp, hg⟩ := hye h1 h2
      rw [hg] at h
      obtain ⟨q, hq⟩ := Option.isSome_iff_exists.1 h
      have e : misM x n = some (x.names.getD i [] :: q) := by rw [hj, hst h1, if_neg hp, hq]
      exact leafV hK (by simp only [Int.toNat_natCast, elDef, sh_eta, nd_eta, hg, hq, e]; rfl)
    · rename_i h1 h2
      obtain ⟨hp, hg⟩ := hye h1 h2
      rw [hg] at h
      exact ⟨i + 1, [], [], ⟨by omega, by rw [hj, hst h1, if_neg hp, h]⟩, by omega, by (conv => whnf); (repeat' (first | exact trivial | rfl | (refine nilEq ?_; first | rfl | (simp only [*]; done) | (simp [*]; done) | grind) | apply And.intro | ((first | refine intEq ?_ | refine boolEq ?_ | refine strEq ?_ | refine psEq ?_ | refine nilEq ?_ | refine arrEq ?_); (try simp only [Int.toNat_natCast, etas, elDef]); first | done | omega | grind | (simp only [*]; done) | (simp [*]; done)))); (all_goals (conv => whnf)); (repeat' (first | exact trivial | rfl | (refine nilEq ?_; first | rfl | (simp only [*]; done) | (simp [*]; done) | grind) | apply And.intro | ((first | refine intEq ?_ | refine boolEq ?_ | refine strEq ?_ | refine psEq ?_ | refine nilEq ?_ | refine arrEq ?_); (try simp only [Int.toNat_natCast, etas, elDef]); first | done | omega | grind | (simp only [*]; done) | (simp [*]; done)) | ((try simp only [Int.toNat_natCast, etas, elDef]); first | done | omega | grind | (simp only [*]; done) | (simp [*]; done)))), (by exact sgOk_of (by rfl))⟩
    · exact leafV hK (by rw [hj, hen (by omega)]; rfl)
theorem r32 : ∀ k, (CtrOK Tryd.prog 32 (.gen .ps (Ck32 k)) ∧ Callable Tryd.prog 32) := by
  intro k
  induction k with
  | zero =>
    exact ⟨fun args K h => by
        unfold Ck32 at h; split at h
        · exact absurd h.o (Nat.not_lt_zero _)
        · exact h.elim, callable Tryd.func32 rfl (by rfl)⟩
  | succ k ih =>
    refine gen_ok (E := E32 k) (mkE_cons ih (mkE_cons s56 (mkE_nil tab_ok))) mix (O := O32) (C := (Ck32 (k + 1))) (own := .ps) Tryd.func32 rfl (by rfl) (by kernel_rfl) (fun args K h hbd => ?_)
    unfold Ck32 at h; split at h
    case h_2 => exact h.elim
    exact ⟨Nat.le_of_ble_eq_true rfl, a32 k ⟨_, _, _, _⟩ ⟨_, _, _, _, _⟩ h.o (by exact hbd) _ h.k⟩
theorem s32 : (CtrOK Tryd.prog 32 (.gen .ps C32) ∧ Callable Tryd.prog 32) := by
  refine ⟨fun args K h => ?_, (r32 0).2⟩
  unfold C32 at h; split at h
  · exact (r32 (m32 ⟨_, _, _, _⟩ ⟨_, _, _, _, _⟩ + 1)).1 _ K ⟨Nat.lt_succ_self _, h⟩
  · exact h.elim
noncomputable def v12 (x : Sh) (n : Nd) : AV := .bool (validS x && validM n && !(misM x n).isSome)
noncomputable def o12 (x : Sh) (n : Nd) : Prop := True
noncomputable def F12 : List AV → QR
  | [.st [.int .i64 x_0, .ps .str x_1, .ps .bool x_2, .ps .shape x_3], .st [.int .i64 n_0, .int .i64 n_1, .str n_2, .ps .str n_3, .ps .node n_4]] => some (none, v12 ⟨x_0, x_1, x_2, x_3⟩ ⟨n_0, n_1, n_2, n_3, n_4⟩)
  | _ => none
noncomputable def E12 : Ctx := mkE tab [(21, .pure F21), (31, .pure F31), (32, .gen .ps C32)]
noncomputable def O12 : Nat → List DI := ordL []
theorem a12 (x : Sh) (n : Nd) (hb : BdAs [.st (shC x), .st (ndC n)]) (ho : o12 x n) (K : AV → List AV → Prop) (hK : K (v12 x n) []) : abody E12 O12 .ps Tryd.f12 (Tryd.f12.body.getD .skip) [.st (shC x), .st (ndC n)] K := by
  simp only [BdAs, BdA, BdL, BdC, MX, ndC, shC, itC, stC, opC, chC, nwC, flC, rqC, rsC, enc, List.cons_append, List.nil_append, and_true, true_and] at hb
  unfold v12 at hK
  have h1 := fun h => validS_ok (x := x) h
  have h2 := fun h => validM_ok (n := n) h
  conv => whnf
  repeat' first
    | (refine Cnd.mk (fun h => ?_) (fun h => ?_) <;> (try simp [etas, elDef, -List.getD_eq_getElem?_getD] at h) <;> conv => whnf)
    | (refine Obl.mk (by first | omega | rfl | exact inK_byte _ | (simp only [inK, Int.toNat_natCast, etas, elDef, m32] <;> first | omega | grind) | grind [inK, m32]) ?_ <;> conv => whnf)
    | (refine OblG.mk (by conv => whnf
                          repeat (first | (refine Bx.mk ?_) | (intro h; (try simp [etas, elDef, -List.getD_eq_getElem?_getD] at h); conv => whnf))
                          first | omega | rfl | exact inK_byte _ | (simp only [inK, Int.toNat_natCast, etas, elDef, m32] <;> first | omega | grind) | grind [inK, m32]) ?_ <;> conv => whnf)
    | (refine Gd.mk (fun h => ?_) <;> (try simp [etas, elDef, -List.getD_eq_getElem?_getD] at h) <;> conv => whnf)
    | (refine And.intro ?_ ?_ <;> conv => whnf)
    | exact True.intro
    | (intro; conv => whnf)
  · refine leafB hK ?_
    rcases h with h | h <;> simp [h]
  · refine leafB hK ?_
    simp only [sh_eta, nd_eta, h.1, h.2, Bool.true_and]
theorem s12 : (CtrOK Tryd.prog 12 (.pure F12) ∧ Callable Tryd.prog 12) := by
  refine pure_ok (E := E12) (mkE_cons s21 (mkE_cons s31 (mkE_cons s32 (mkE_nil tab_ok)))) mix (O := O12) (F := F12) Tryd.func12 rfl (by rfl) (by kernel_rfl) (fun args o v h => ?_) (fun args o v h => ?_) (fun args o v h hbd hp K hK => ?_)
  · unfold F12 at h; split at h <;> cases h; first | trivial | (simp [v12, Scalar, Scalar2, Scalar1, stC, ndC, itC, chC, nwC])
  · unfold F12 at h; split at h <;> cases h; exact Nat.le_of_ble_eq_true rfl
  · unfold F12 at h; split at h
    case h_2 => cases h
    cases h
    exact a12 ⟨_, _, _, _⟩ ⟨_, _, _, _, _⟩ (by exact hbd) trivial K hK
end Go.Rs

