import Derived.Test.YtfaaemggaliojaaGreatDoorCB
import Derived.Test.YtfaaemggaliojaaGreatDoorMA
set_option linter.all false
set_option linter.unusedSimpArgs false
set_option linter.unusedVariables false
namespace Go.Rs
open Go.Proofs
set_option maxRecDepth 100000
noncomputable def v64 (n : Nd) (lvl : Int) : AV := .tup [.int .i64 (if shapeM (6 - lvl).toNat n then (countM n : Int) else 0), .int .i64 (if shapeM (6 - lvl).toNat n then (depthM n : Int) else 0), .bool (shapeM (6 - lvl).toNat n)]
noncomputable def o64 (n : Nd) (lvl : Int) : Prop := 1 ≤ lvl ∧ lvl ≤ 6
noncomputable def m64 (n : Nd) (lvl : Int) : Nat := SizeOf.sizeOf n
noncomputable def F64 : List AV → QR
  | [.st [.int .i64 n_0, .int .i64 n_1, .str n_2, .ps .str n_3, .ps .node n_4], .int .i64 lvl] => some (some (o64 ⟨n_0, n_1, n_2, n_3, n_4⟩ lvl), v64 ⟨n_0, n_1, n_2, n_3, n_4⟩ lvl)
  | _ => none
noncomputable def Fk64 (k : Nat) : List AV → QR
  | [.st [.int .i64 n_0, .int .i64 n_1, .str n_2, .ps .str n_3, .ps .node n_4], .int .i64 lvl] => some (some (m64 ⟨n_0, n_1, n_2, n_3, n_4⟩ lvl < k ∧ o64 ⟨n_0, n_1, n_2, n_3, n_4⟩ lvl), v64 ⟨n_0, n_1, n_2, n_3, n_4⟩ lvl)
  | _ => none
noncomputable def E64 (k : Nat) : Ctx := mkE tab [(64, .pure (Fk64 k)), (75, .pure F75)]
noncomputable def O64 : Nat → List DI := ordL []
theorem a64 (k : Nat) (n : Nd) (lvl : Int) (hm : m64 n lvl < k + 1) (hb : BdAs [.st (ndC n), .int .i64 lvl]) (ho : o64 n lvl) (K : AV → List AV → Prop) (hK : K (v64 n lvl) []) : abody (E64 k) O64 .ps Tryz.f64 (Tryz.f64.body.getD .skip) [.st (ndC n), .int .i64 lvl] K := by
  simp only [BdAs, BdA, BdL, BdC, MX, ndC, shC, itC, stC, opC, chC, nwC, flC, rqC, rsC, enc, List.cons_append, List.nil_append, and_true, true_and] at hb
  unfold o64 at ho
  unfold v64 at hK
  unfold m64 at hm
  have hkid : ∀ j, j < n.kids.length → SizeOf.sizeOf (n.kids.getD j default) < k := fun j hj => by have := kid_size hj; omega
  have h0 : lvl = 6 → shapeM (6 - lvl).toNat n = false := fun e => by subst e; rfl
  have h1 : lvl < 6 → shapeM (6 - lvl).toNat n = (partsM n && n.kids.all (shapeM ((6 - lvl).toNat - 1))) := fun h => shapeM_pos n (by omega)
  have h2 : (6 - (lvl + 1)).toNat = (6 - lvl).toNat - 1 := by omega
  conv => whnf
  repeat' first|(refine Cnd.mk (fun h=>?_) (fun h=>?_)<;>(try simp [etas,elDef,-List.getD_eq_getElem?_getD] at h)<;>conv=>whnf)|(refine Obl.mk (by first|omega|rfl|exact inK_byte _|(simp only [inK,Int.toNat_natCast,etas,elDef,m64,o64,m64]<;>first|omega|grind)|grind [inK,m64,o64,m64]) ?_<;>conv=>whnf)|(refine OblG.mk (by ((conv=>whnf);(repeat (first|(refine Bx.mk ?_)|(intro h;(try simp [etas,elDef,-List.getD_eq_getElem?_getD] at h);conv=>whnf)));(first|omega|rfl|exact inK_byte _|(simp only [inK,Int.toNat_natCast,etas,elDef,m64,o64,m64]<;>first|omega|grind)|grind [inK,m64,o64,m64]))) ?_<;>conv=>whnf)|(refine Gd.mk (fun h=>?_)<;>(try simp [etas,elDef,-List.getD_eq_getElem?_getD] at h)<;>conv=>whnf)|(refine And.intro ?_ ?_<;>conv=>whnf)|exact True.intro|(intro;conv=>whnf)
  · have : shapeM (6 - lvl).toNat n = false := by grind
    exact leafV hK (by simp [this])
  have hp := partsM_kids h.2
  have hc : ∀ x, shapeM ((6 - lvl).toNat - 1) x = true → countM x ≤ 16807 := fun x hx => okN_count ⟨_, by omega, hx⟩
  have hd : ∀ x, shapeM ((6 - lvl).toNat - 1) x = true → depthM x ≤ 5 := fun x hx => Nat.le_trans (depth_le hx) (by omega)
  refine aloop_intro Nat (fun k => k ≤ n.kids.length ∧ ∀ j, j < k → shapeM ((6 - lvl).toNat - 1) (n.kids.getD j default) = true) (fun k => n.kids.length - k) (fun k => [(22, .int .i64 k), (4, .int .i64 (1 + sumN countM (n.kids.take k) : Nat)), (5, .int .i64 (1 + maxN depthM (n.kids.take k) : Nat))]) (fun k => []) [2] 0 [] [] ?_ ?_ (by exact sgOk_of (by rfl)) ?_
  · first | (simp; done) | (simp; assumption)
  · iterate 2 ((all_goals (conv=>whnf));(repeat' (first|exact trivial|rfl|(refine nilEq ?_;first|rfl|(simp only [*];done)|(simp [*];done)|grind)|apply And.intro|((first|refine intEq ?_|refine boolEq ?_|refine strEq ?_|refine psEq ?_|refine nilEq ?_|refine arrEq ?_);(try simp only [Int.toNat_natCast,etas,elDef]);first | done | omega | grind | (simp only [*]; done) | (simp [*]; done)))));(all_goals ((try simp only [Int.toNat_natCast,etas,elDef]);first | done | omega | grind | (simp only [*]; done) | (simp [*]; done)))
  rintro i ⟨hi, hj⟩
  conv => whnf
  have hsum : sumN countM (n.kids.take i) ≤ i * 16807 := sumN_take_bound hi fun j h => hc _ (hj j h)
  have hmax : maxN depthM (n.kids.take i) ≤ 5 := maxN_take_bound hi fun j h => hd _ (hj j h)
  have hst := fun h => sumN_take (f := countM) (l := n.kids) (k := i) h
  have hmt := fun h => maxN_take (f := depthM) (l := n.kids) (k := i) h
  have hci := hc (n.kids.getD i default)
  have hdi := hd (n.kids.getD i default)
  repeat' first|(refine Cnd.mk (fun h=>?_) (fun h=>?_)<;>(try simp [etas,elDef,-List.getD_eq_getElem?_getD] at h)<;>conv=>whnf)|(refine Obl.mk (by first|omega|rfl|exact inK_byte _|(simp only [inK,Int.toNat_natCast,etas,elDef,m64,o64,m64]<;>first|omega|grind)|grind [inK,m64,o64,m64]) ?_<;>conv=>whnf)|(refine OblG.mk (by ((conv=>whnf);(repeat (first|(refine Bx.mk ?_)|(intro h;(try simp [etas,elDef,-List.getD_eq_getElem?_getD] at h);conv=>whnf)));(first|omega|rfl|exact inK_byte _|(simp only [inK,Int.toNat_natCast,etas,elDef,m64,o64,m64]<;>first|omega|grind)|grind [inK,m64,o64,m64]))) ?_<;>conv=>whnf)|(refine Gd.mk (fun h=>?_)<;>(try simp [etas,elDef,-List.getD_eq_getElem?_getD] at h)<;>conv=>whnf)|(refine And.intro ?_ ?_<;>conv=>whnf)|exact True.intro|(intro;conv=>whnf)
  · have hn : n.kids.all (shapeM ((6 - lvl).toNat - 1)) = false := allN_no (j := i) (by omega) (by rw [← h2]; assumption)
    have : shapeM (6 - lvl).toNat n = false := by grind
    exact leafV hK (by simp [this])
  · have h9 : shapeM ((6 - lvl).toNat - 1) (n.kids.getD i default) = true := by rw [← h2]; assumption
    refine ⟨i + 1, [], [], ⟨by omega, by grind⟩, by omega, ?_, (by exact sgOk_of (by rfl))⟩
    iterate 2 ((all_goals (conv=>whnf));(repeat' (first|exact trivial|rfl|(refine nilEq ?_;first|rfl|(simp only [*];done)|(simp [*];done)|grind)|apply And.intro|((first|refine intEq ?_|refine boolEq ?_|refine strEq ?_|refine psEq ?_|refine nilEq ?_|refine arrEq ?_);(try simp only [Int.toNat_natCast,etas,elDef]);grind))));(all_goals ((try simp only [Int.toNat_natCast,etas,elDef]);grind))
  · have hn : n.kids.all (shapeM ((6 - lvl).toNat - 1)) = true := (allN_iff _ _).2 (by grind)
    have : shapeM (6 - lvl).toNat n = true := by grind
    have e : n.kids.take i = n.kids := List.take_of_length_le (by omega)
    exact leafV hK (by simp only [this, if_true, countM_eq, depthM_eq, e])
theorem r64 : ∀ k, (CtrOK Tryz.prog 64 (.pure (Fk64 k)) ∧ Callable Tryz.prog 64) := by
  intro k
  induction k with
  | zero =>
    exact ⟨⟨fun args o v h => by unfold Fk64 at h; split at h <;> cases h; first | trivial | (simp [v64, Scalar, Scalar2, Scalar1, stC, ndC, itC, chC, nwC]), fun args K h => by
        unfold pureC Fk64 at h; split at h
        · rename_i h1; split at h1 <;> cases h1; exact absurd (h.1 _ rfl).1 (Nat.not_lt_zero _)
        · exact h.elim⟩, callable Tryz.func64 rfl (by rfl)⟩
  | succ k ih =>
    refine pure_ok (E := E64 k) (mkE_cons ih (mkE_cons s75 (mkE_nil tab_ok))) mix (O := O64) (F := (Fk64 (k + 1))) Tryz.func64 rfl (by rfl) (by kernel_rfl) (fun args o v h => ?_) (fun args o v h => ?_) (fun args o v h hbd hp K hK => ?_)
    · unfold Fk64 at h; split at h <;> cases h; first | trivial | (simp [v64, Scalar, Scalar2, Scalar1, stC, ndC, itC, chC, nwC])
    · unfold Fk64 at h; split at h <;> cases h; exact Nat.le_of_ble_eq_true rfl
    · unfold Fk64 at h; split at h
      case h_2 => cases h
      cases h
      exact a64 k ⟨_, _, _, _, _⟩ _ (hp _ rfl).1 (by exact hbd) (hp _ rfl).2 K hK
theorem s64 : (CtrOK Tryz.prog 64 (.pure F64) ∧ Callable Tryz.prog 64) := by
  refine ⟨⟨fun args o v h => ?_, fun args K h => ?_⟩, (r64 0).2⟩
  · unfold F64 at h; split at h <;> cases h; first | trivial | (simp [v64, Scalar, Scalar2, Scalar1, stC, ndC, itC, chC, nwC])
  · unfold pureC F64 at h; split at h
    · rename_i h1; split at h1 <;> cases h1
      exact (r64 (m64 ⟨_, _, _, _, _⟩ _ + 1)).1.2 _ K ⟨fun p hp => by cases hp; exact ⟨Nat.lt_succ_self _, (h.1 _ rfl)⟩, h.2⟩
    · exact h.elim
noncomputable def v46 (b : Bs) : AV := .bool (nameM b)
noncomputable def o46 (b : Bs) : Prop := True
noncomputable def F46 : List AV → QR
  | [.str b] => some (none, v46 b)
  | _ => none
noncomputable def E46 : Ctx := mkE tab []
noncomputable def O46 : Nat → List DI := ordL []
theorem a46 (b : Bs) (hb : BdAs [.str b]) (ho : o46 b) (K : AV → List AV → Prop) (hK : K (v46 b) []) : abody E46 O46 .ps Tryz.f46 (Tryz.f46.body.getD .skip) [.str b] K := by
  simp only [BdAs, BdA, BdL, BdC, MX, ndC, shC, itC, stC, opC, chC, nwC, flC, rqC, rsC, enc, List.cons_append, List.nil_append, and_true, true_and] at hb
  unfold v46 at hK
  conv => whnf
  repeat' first|(refine Cnd.mk (fun h=>?_) (fun h=>?_)<;>(try simp [etas,elDef,-List.getD_eq_getElem?_getD] at h)<;>conv=>whnf)|(refine Obl.mk (by first|omega|rfl|exact inK_byte _|(simp only [inK,Int.toNat_natCast,etas,elDef]<;>first|omega|grind)|grind [inK]) ?_<;>conv=>whnf)|(refine OblG.mk (by ((conv=>whnf);(repeat (first|(refine Bx.mk ?_)|(intro h;(try simp [etas,elDef,-List.getD_eq_getElem?_getD] at h);conv=>whnf)));(first|omega|rfl|exact inK_byte _|(simp only [inK,Int.toNat_natCast,etas,elDef]<;>first|omega|grind)|grind [inK]))) ?_<;>conv=>whnf)|(refine Gd.mk (fun h=>?_)<;>(try simp [etas,elDef,-List.getD_eq_getElem?_getD] at h)<;>conv=>whnf)|(refine And.intro ?_ ?_<;>conv=>whnf)|exact True.intro|(intro;conv=>whnf)
  · exact leafB hK (by grind [nameM])
  refine aloop_intro Nat (fun k => k ≤ b.length ∧ ∀ j, j < k → nameCh (b.getD j 0) = true) (fun k => b.length - k) (fun k => [(3, .int .i64 k)]) (fun k => []) [] 0 [] [] ?_ ?_ (by exact sgOk_of (by rfl)) ?_
  · first | (simp; done) | (simp; assumption)
  · iterate 2 ((all_goals (conv=>whnf));(repeat' (first|exact trivial|rfl|(refine nilEq ?_;first|rfl|(simp only [*];done)|(simp [*];done)|grind)|apply And.intro|((first|refine intEq ?_|refine boolEq ?_|refine strEq ?_|refine psEq ?_|refine nilEq ?_|refine arrEq ?_);(try simp only [Int.toNat_natCast,etas,elDef]);first | done | omega | grind | (simp only [*]; done) | (simp [*]; done)))));(all_goals ((try simp only [Int.toNat_natCast,etas,elDef]);first | done | omega | grind | (simp only [*]; done) | (simp [*]; done)))
  rintro i ⟨hi, hj⟩
  conv => whnf
  repeat' first|(refine Cnd.mk (fun h=>?_) (fun h=>?_)<;>(try simp [etas,elDef,-List.getD_eq_getElem?_getD] at h)<;>conv=>whnf)|(refine Obl.mk (by first|omega|rfl|exact inK_byte _|(simp only [inK,Int.toNat_natCast,etas,elDef]<;>first|omega|grind)|grind [inK]) ?_<;>conv=>whnf)|(refine OblG.mk (by ((conv=>whnf);(repeat (first|(refine Bx.mk ?_)|(intro h;(try simp [etas,elDef,-List.getD_eq_getElem?_getD] at h);conv=>whnf)));(first|omega|rfl|exact inK_byte _|(simp only [inK,Int.toNat_natCast,etas,elDef]<;>first|omega|grind)|grind [inK]))) ?_<;>conv=>whnf)|(refine Gd.mk (fun h=>?_)<;>(try simp [etas,elDef,-List.getD_eq_getElem?_getD] at h)<;>conv=>whnf)|(refine And.intro ?_ ?_<;>conv=>whnf)|exact True.intro|(intro;conv=>whnf)
  · have : nameCh (b.getD i 0) = false := by grind [nameCh]
    exact leafB hK (by grind [nameM, all_no])
  · have : nameCh (b.getD i 0) = true := by grind [nameCh]
    exact ⟨i + 1, [], [], ⟨by omega, by grind⟩, by omega, by iterate 2 ((all_goals (conv=>whnf));(repeat' (first|exact trivial|rfl|(refine nilEq ?_;first|rfl|(simp only [*];done)|(simp [*];done)|grind)|apply And.intro|((first|refine intEq ?_|refine boolEq ?_|refine strEq ?_|refine psEq ?_|refine nilEq ?_|refine arrEq ?_);(try simp only [Int.toNat_natCast,etas,elDef]);first | done | omega | grind | (simp only [*]; done) | (simp [*]; done)))));(all_goals ((try simp only [Int.toNat_natCast,etas,elDef]);first | done | omega | grind | (simp only [*]; done) | (simp [*]; done))), (by exact sgOk_of (by rfl))⟩
  · have : b.all nameCh = true := (all_iff b _).2 (by grind)
    exact leafB hK (by grind [nameM])
theorem s46 : (CtrOK Tryz.prog 46 (.pure F46) ∧ Callable Tryz.prog 46) := by
  refine pure_ok (E := E46) (mkE_nil tab_ok) mix (O := O46) (F := F46) Tryz.func46 rfl (by rfl) (by kernel_rfl) (fun args o v h => ?_) (fun args o v h => ?_) (fun args o v h hbd hp K hK => ?_)
  · unfold F46 at h; split at h <;> cases h; first | trivial | (simp [v46, Scalar, Scalar2, Scalar1, stC, ndC, itC, chC, nwC])
  · unfold F46 at h; split at h <;> cases h; exact Nat.le_of_ble_eq_true rfl
  · unfold F46 at h; split at h
    case h_2 => cases h
    cases h
    exact a46 _ (by exact hbd) trivial K hK
noncomputable def v37 (b : Bs) : AV := .bool (nameM b)
noncomputable def o37 (b : Bs) : Prop := True
noncomputable def F37 : List AV → QR
  | [.str b] => some (none, v37 b)
  | _ => none
noncomputable def E37 : Ctx := mkE tab [(39, .pure F39)]
noncomputable def O37 : Nat → List DI := ordL []
theorem a37 (b : Bs) (hb : BdAs [.str b]) (ho : o37 b) (K : AV → List AV → Prop) (hK : K (v37 b) []) : abody E37 O37 .ps Tryz.f37 (Tryz.f37.body.getD .skip) [.str b] K := by
  simp only [BdAs, BdA, BdL, BdC, MX, ndC, shC, itC, stC, opC, chC, nwC, flC, rqC, rsC, enc, List.cons_append, List.nil_append, and_true, true_and] at hb
  unfold v37 at hK
  conv => whnf
  refine aloop_intro Nat (fun k => k ≤ b.length ∧ ∀ j, j < k → nameCh (b.getD j 0) = true) (fun k => b.length - k) (fun k => [(3, .int .i64 k)]) (fun k => []) [] 0 [] [] ?_ ?_ (by exact sgOk_of (by rfl)) ?_
  · first | (simp; done) | (simp; assumption)
  · iterate 2 ((all_goals (conv=>whnf));(repeat' (first|exact trivial|rfl|(refine nilEq ?_;first|rfl|(simp only [*];done)|(simp [*];done)|grind)|apply And.intro|((first|refine intEq ?_|refine boolEq ?_|refine strEq ?_|refine psEq ?_|refine nilEq ?_|refine arrEq ?_);(try simp only [Int.toNat_natCast,etas,elDef]);first | done | omega | grind | (simp only [*]; done) | (simp [*]; done)))));(all_goals ((try simp only [Int.toNat_natCast,etas,elDef]);first | done | omega | grind | (simp only [*]; done) | (simp [*]; done)))
  rintro i ⟨hi, hj⟩
  conv => whnf
  repeat' first|(refine Cnd.mk (fun h=>?_) (fun h=>?_)<;>(try simp [etas,elDef,-List.getD_eq_getElem?_getD] at h)<;>conv=>whnf)|(refine Obl.mk (by first|omega|rfl|exact inK_byte _|(simp only [inK,Int.toNat_natCast,etas,elDef]<;>first|omega|grind)|grind [inK]) ?_<;>conv=>whnf)|(refine OblG.mk (by ((conv=>whnf);(repeat (first|(refine Bx.mk ?_)|(intro h;(try simp [etas,elDef,-List.getD_eq_getElem?_getD] at h);conv=>whnf)));(first|omega|rfl|exact inK_byte _|(simp only [inK,Int.toNat_natCast,etas,elDef]<;>first|omega|grind)|grind [inK]))) ?_<;>conv=>whnf)|(refine Gd.mk (fun h=>?_)<;>(try simp [etas,elDef,-List.getD_eq_getElem?_getD] at h)<;>conv=>whnf)|(refine And.intro ?_ ?_<;>conv=>whnf)|exact True.intro|(intro;conv=>whnf)
  · have : nameCh (b.getD i 0) = false := by grind [nameCh]
    exact leafB hK (by grind [nameM, all_no])
  · have : nameCh (b.getD i 0) = true := by grind [nameCh]
    exact ⟨i + 1, [], [], ⟨by omega, by grind⟩, by omega, by iterate 2 ((all_goals (conv=>whnf));(repeat' (first|exact trivial|rfl|(refine nilEq ?_;first|rfl|(simp only [*];done)|(simp [*];done)|grind)|apply And.intro|((first|refine intEq ?_|refine boolEq ?_|refine strEq ?_|refine psEq ?_|refine nilEq ?_|refine arrEq ?_);(try simp only [Int.toNat_natCast,etas,elDef]);first | done | omega | grind | (simp only [*]; done) | (simp [*]; done)))));(all_goals ((try simp only [Int.toNat_natCast,etas,elDef]);first | done | omega | grind | (simp only [*]; done) | (simp [*]; done))), (by exact sgOk_of (by rfl))⟩
  · have : b.all nameCh = true := (all_iff b _).2 (by grind)
    exact leafB hK (by grind [nameM])
theorem s37 : (CtrOK Tryz.prog 37 (.pure F37) ∧ Callable Tryz.prog 37) := by
  refine pure_ok (E := E37) (mkE_cons s39 (mkE_nil tab_ok)) mix (O := O37) (F := F37) Tryz.func37 rfl (by rfl) (by kernel_rfl) (fun args o v h => ?_) (fun args o v h => ?_) (fun args o v h hbd hp K hK => ?_)
  · unfold F37 at h; split at h <;> cases h; first | trivial | (simp [v37, Scalar, Scalar2, Scalar1, stC, ndC, itC, chC, nwC])
  · unfold F37 at h; split at h <;> cases h; exact Nat.le_of_ble_eq_true rfl
  · unfold F37 at h; split at h
    case h_2 => cases h
    cases h
    exact a37 _ (by exact hbd) trivial K hK
noncomputable def v17 (s : Sto) : AV := .bool (storeM s)
noncomputable def o17 (s : Sto) : Prop := True
noncomputable def F17 : List AV → QR
  | [.st [.ps .item s_0, .int .i64 s_1]] => some (none, v17 ⟨s_0, s_1⟩)
  | _ => none
noncomputable def E17 : Ctx := mkE tab [(37, .pure F37), (38, .pure F38), (39, .pure F39)]
noncomputable def O17 : Nat → List DI := ordL [(5, [.q 0, .q 1, .q 2, .q 3, .q 4, .q 5, .q 6, .q 7, .q 8, .q 9, .q 10, .q 11, .q 12, .q 13, .q 14, .q 15, .q 16, .q 17, .q 18, .q 19, .q 20, .q 21, .q 22, .q 23, .q 24, .q 25, .q 26, .q 27, .q 28, .q 29, .q 30, .q 31, .q 32, .q 33])]
theorem a17 (s : Sto) (hb : BdAs [.st (stC s)]) (ho : o17 s) (K : AV → List AV → Prop) (hK : K (v17 s) []) : abody E17 O17 .ps Tryz.f17 (Tryz.f17.body.getD .skip) [.st (stC s)] K := by
  simp only [BdAs, BdA, BdL, BdC, MX, ndC, shC, itC, stC, opC, chC, nwC, flC, rqC, rsC, enc, List.cons_append, List.nil_append, and_true, true_and] at hb
  unfold v17 at hK
  conv => whnf
  refine aloop_intro Nat (fun k => k ≤ s.items.length ∧ ∀ j, j < k → itemOk s j = true) (fun k => s.items.length - k) (fun k => [(3, .int .i64 k)]) (fun k => []) [1] 0 [] [] ?_ ?_ (by exact sgOk_of (by rfl)) ?_
  · first | (simp; done) | (simp; assumption)
  · iterate 2 ((all_goals (conv=>whnf));(repeat' (first|exact trivial|rfl|(refine nilEq ?_;first|rfl|(simp only [*];done)|(simp [*];done)|grind)|apply And.intro|((first|refine intEq ?_|refine boolEq ?_|refine strEq ?_|refine psEq ?_|refine nilEq ?_|refine arrEq ?_);(try simp only [Int.toNat_natCast,etas,elDef]);first | done | omega | grind | (simp only [*]; done) | (simp [*]; done)))));(all_goals ((try simp only [Int.toNat_natCast,etas,elDef]);first | done | omega | grind | (simp only [*]; done) | (simp [*]; done)))
  rintro i ⟨hi, hj⟩
  conv => whnf
  repeat' first|(refine Cnd.mk (fun h=>?_) (fun h=>?_)<;>(try simp [etas,elDef,-List.getD_eq_getElem?_getD] at h)<;>conv=>whnf)|(refine Obl.mk (by first|omega|rfl|exact inK_byte _|(simp only [inK,Int.toNat_natCast,etas,elDef]<;>first|omega|grind)|grind [inK]) ?_<;>conv=>whnf)|(refine OblG.mk (by ((conv=>whnf);(repeat (first|(refine Bx.mk ?_)|(intro h;(try simp [etas,elDef,-List.getD_eq_getElem?_getD] at h);conv=>whnf)));(first|omega|rfl|exact inK_byte _|(simp only [inK,Int.toNat_natCast,etas,elDef]<;>first|omega|grind)|grind [inK]))) ?_<;>conv=>whnf)|(refine Gd.mk (fun h=>?_)<;>(try simp [etas,elDef,-List.getD_eq_getElem?_getD] at h)<;>conv=>whnf)|(refine And.intro ?_ ?_<;>conv=>whnf)|exact True.intro|(intro;conv=>whnf)
  · have : itemOk s i = false := by grind [itemOk]
    exact leafB hK (by grind [storeM, itemsM_no])
  · have : itemOk s i = true := by grind [itemOk]
    exact ⟨i + 1, [], [], ⟨by omega, by grind⟩, by omega, by iterate 2 ((all_goals (conv=>whnf));(repeat' (first|exact trivial|rfl|(refine nilEq ?_;first|rfl|(simp only [*];done)|(simp [*];done)|grind)|apply And.intro|((first|refine intEq ?_|refine boolEq ?_|refine strEq ?_|refine psEq ?_|refine nilEq ?_|refine arrEq ?_);(try simp only [Int.toNat_natCast,etas,elDef]);first | done | omega | grind | (simp only [*]; done) | (simp [*]; done)))));(all_goals ((try simp only [Int.toNat_natCast,etas,elDef]);first | done | omega | grind | (simp only [*]; done) | (simp [*]; done))), (by exact sgOk_of (by rfl))⟩
  · have : itemsM s = true := (itemsM_iff s).2 (by grind)
    exact leafB hK (by grind [storeM])
theorem s17 : (CtrOK Tryz.prog 17 (.pure F17) ∧ Callable Tryz.prog 17) := by
  refine pure_ok (E := E17) (mkE_cons s37 (mkE_cons s38 (mkE_cons s39 (mkE_nil tab_ok)))) mix (O := O17) (F := F17) Tryz.func17 rfl (by rfl) (by kernel_rfl) (fun args o v h => ?_) (fun args o v h => ?_) (fun args o v h hbd hp K hK => ?_)
  · unfold F17 at h; split at h <;> cases h; first | trivial | (simp [v17, Scalar, Scalar2, Scalar1, stC, ndC, itC, chC, nwC])
  · unfold F17 at h; split at h <;> cases h; exact Nat.le_of_ble_eq_true rfl
  · unfold F17 at h; split at h
    case h_2 => cases h
    cases h
    exact a17 ⟨_, _⟩ (by exact hbd) trivial K hK
noncomputable def v47 (n : Nd) : AV := .bool (validM n)
noncomputable def o47 (n : Nd) : Prop := True
noncomputable def F47 : List AV → QR
  | [.st [.int .i64 n_0, .int .i64 n_1, .str n_2, .ps .str n_3, .ps .node n_4]] => some (none, v47 ⟨n_0, n_1, n_2, n_3, n_4⟩)
  | _ => none
noncomputable def E47 : Ctx := mkE tab [(64, .pure F64)]
noncomputable def O47 : Nat → List DI := ordL []
theorem a47 (n : Nd) (hb : BdAs [.st (ndC n)]) (ho : o47 n) (K : AV → List AV → Prop) (hK : K (v47 n) []) : abody E47 O47 .ps Tryz.f47 (Tryz.f47.body.getD .skip) [.st (ndC n)] K := by
  simp only [BdAs, BdA, BdL, BdC, MX, ndC, shC, itC, stC, opC, chC, nwC, flC, rqC, rsC, enc, List.cons_append, List.nil_append, and_true, true_and] at hb
  unfold v47 at hK
  conv => whnf
  repeat' first|(refine Cnd.mk (fun h=>?_) (fun h=>?_)<;>(try simp [etas,elDef,-List.getD_eq_getElem?_getD] at h)<;>conv=>whnf)|(refine Obl.mk (by first|omega|rfl|exact inK_byte _|(simp only [inK,Int.toNat_natCast,etas,elDef,o64,m64]<;>first|omega|grind)|grind [inK,o64,m64]) ?_<;>conv=>whnf)|(refine OblG.mk (by ((conv=>whnf);(repeat (first|(refine Bx.mk ?_)|(intro h;(try simp [etas,elDef,-List.getD_eq_getElem?_getD] at h);conv=>whnf)));(first|omega|rfl|exact inK_byte _|(simp only [inK,Int.toNat_natCast,etas,elDef,o64,m64]<;>first|omega|grind)|grind [inK,o64,m64]))) ?_<;>conv=>whnf)|(refine Gd.mk (fun h=>?_)<;>(try simp [etas,elDef,-List.getD_eq_getElem?_getD] at h)<;>conv=>whnf)|(refine And.intro ?_ ?_<;>conv=>whnf)|exact True.intro|(intro;conv=>whnf)
  exact leafB hK (by simp only [validM, nd_eta]; grind)
theorem s47 : (CtrOK Tryz.prog 47 (.pure F47) ∧ Callable Tryz.prog 47) := by
  refine pure_ok (E := E47) (mkE_cons s64 (mkE_nil tab_ok)) mix (O := O47) (F := F47) Tryz.func47 rfl (by rfl) (by kernel_rfl) (fun args o v h => ?_) (fun args o v h => ?_) (fun args o v h hbd hp K hK => ?_)
  · unfold F47 at h; split at h <;> cases h; first | trivial | (simp [v47, Scalar, Scalar2, Scalar1, stC, ndC, itC, chC, nwC])
  · unfold F47 at h; split at h <;> cases h; exact Nat.le_of_ble_eq_true rfl
  · unfold F47 at h; split at h
    case h_2 => cases h
    cases h
    exact a47 ⟨_, _, _, _, _⟩ (by exact hbd) trivial K hK
noncomputable def v23 (s : Sto) : AV := .bool (storeM s)
noncomputable def o23 (s : Sto) : Prop := True
noncomputable def F23 : List AV → QR
  | [.st [.ps .item s_0, .int .i64 s_1]] => some (none, v23 ⟨s_0, s_1⟩)
  | _ => none
noncomputable def E23 : Ctx := mkE tab [(46, .pure F46), (47, .pure F47)]
noncomputable def O23 : Nat → List DI := ordL [(6, [.q 0, .q 1, .q 2, .q 3, .q 4, .q 5, .q 6, .q 7, .q 8, .q 9, .q 10, .q 11, .q 12, .q 13, .q 14, .q 15, .q 16, .q 17, .q 18, .q 19])]
theorem a23 (s : Sto) (hb : BdAs [.st (stC s)]) (ho : o23 s) (K : AV → List AV → Prop) (hK : K (v23 s) []) : abody E23 O23 .ps Tryz.f23 (Tryz.f23.body.getD .skip) [.st (stC s)] K := by
  simp only [BdAs, BdA, BdL, BdC, MX, ndC, shC, itC, stC, opC, chC, nwC, flC, rqC, rsC, enc, List.cons_append, List.nil_append, and_true, true_and] at hb
  unfold v23 at hK
  conv => whnf
  repeat' first|(refine Cnd.mk (fun h=>?_) (fun h=>?_)<;>(try simp [etas,elDef,-List.getD_eq_getElem?_getD] at h)<;>conv=>whnf)|(refine Obl.mk (by first|omega|rfl|exact inK_byte _|(simp only [inK,Int.toNat_natCast,etas,elDef]<;>first|omega|grind)|grind [inK]) ?_<;>conv=>whnf)|(refine OblG.mk (by ((conv=>whnf);(repeat (first|(refine Bx.mk ?_)|(intro h;(try simp [etas,elDef,-List.getD_eq_getElem?_getD] at h);conv=>whnf)));(first|omega|rfl|exact inK_byte _|(simp only [inK,Int.toNat_natCast,etas,elDef]<;>first|omega|grind)|grind [inK]))) ?_<;>conv=>whnf)|(refine Gd.mk (fun h=>?_)<;>(try simp [etas,elDef,-List.getD_eq_getElem?_getD] at h)<;>conv=>whnf)|(refine And.intro ?_ ?_<;>conv=>whnf)|exact True.intro|(intro;conv=>whnf)
  · exact leafB hK (by grind [storeM])
  refine aloop_intro Nat (fun k => k ≤ s.items.length ∧ ∀ j, j < k → itemOk s j = true) (fun k => s.items.length - k) (fun k => [(22, .int .i64 k)]) (fun k => []) [1] 0 [] [] ?_ ?_ (by exact sgOk_of (by rfl)) ?_
  · first | (simp; done) | (simp; assumption)
  · iterate 2 ((all_goals (conv=>whnf));(repeat' (first|exact trivial|rfl|(refine nilEq ?_;first|rfl|(simp only [*];done)|(simp [*];done)|grind)|apply And.intro|((first|refine intEq ?_|refine boolEq ?_|refine strEq ?_|refine psEq ?_|refine nilEq ?_|refine arrEq ?_);(try simp only [Int.toNat_natCast,etas,elDef]);first | done | omega | grind | (simp only [*]; done) | (simp [*]; done)))));(all_goals ((try simp only [Int.toNat_natCast,etas,elDef]);first | done | omega | grind | (simp only [*]; done) | (simp [*]; done)))
  rintro i ⟨hi, hj⟩
  conv => whnf
  repeat' first|(refine Cnd.mk (fun h=>?_) (fun h=>?_)<;>(try simp [etas,elDef,-List.getD_eq_getElem?_getD] at h)<;>conv=>whnf)|(refine Obl.mk (by first|omega|rfl|exact inK_byte _|(simp only [inK,Int.toNat_natCast,etas,elDef]<;>first|omega|grind)|grind [inK]) ?_<;>conv=>whnf)|(refine OblG.mk (by ((conv=>whnf);(repeat (first|(refine Bx.mk ?_)|(intro h;(try simp [etas,elDef,-List.getD_eq_getElem?_getD] at h);conv=>whnf)));(first|omega|rfl|exact inK_byte _|(simp only [inK,Int.toNat_natCast,etas,elDef]<;>first|omega|grind)|grind [inK]))) ?_<;>conv=>whnf)|(refine Gd.mk (fun h=>?_)<;>(try simp [etas,elDef,-List.getD_eq_getElem?_getD] at h)<;>conv=>whnf)|(refine And.intro ?_ ?_<;>conv=>whnf)|exact True.intro|(intro;conv=>whnf)
  · have : itemOk s i = false := by grind [itemOk]
    exact leafB hK (by grind [storeM, itemsM_no])
  · have : itemOk s i = false := by grind [itemOk]
    exact leafB hK (by grind [storeM, itemsM_no])
  · have : itemOk s i = true := by grind [itemOk]
    exact ⟨i + 1, [], [], ⟨by omega, by grind⟩, by omega, by iterate 2 ((all_goals (conv=>whnf));(repeat' (first|exact trivial|rfl|(refine nilEq ?_;first|rfl|(simp only [*];done)|(simp [*];done)|grind)|apply And.intro|((first|refine intEq ?_|refine boolEq ?_|refine strEq ?_|refine psEq ?_|refine nilEq ?_|refine arrEq ?_);(try simp only [Int.toNat_natCast,etas,elDef]);first | done | omega | grind | (simp only [*]; done) | (simp [*]; done)))));(all_goals ((try simp only [Int.toNat_natCast,etas,elDef]);first | done | omega | grind | (simp only [*]; done) | (simp [*]; done))), (by exact sgOk_of (by rfl))⟩
  · have : itemsM s = true := (itemsM_iff s).2 (by grind)
    exact leafB hK (by grind [storeM])
theorem s23 : (CtrOK Tryz.prog 23 (.pure F23) ∧ Callable Tryz.prog 23) := by
  refine pure_ok (E := E23) (mkE_cons s46 (mkE_cons s47 (mkE_nil tab_ok))) mix (O := O23) (F := F23) Tryz.func23 rfl (by rfl) (by kernel_rfl) (fun args o v h => ?_) (fun args o v h => ?_) (fun args o v h hbd hp K hK => ?_)
  · unfold F23 at h; split at h <;> cases h; first | trivial | (simp [v23, Scalar, Scalar2, Scalar1, stC, ndC, itC, chC, nwC])
  · unfold F23 at h; split at h <;> cases h; exact Nat.le_of_ble_eq_true rfl
  · unfold F23 at h; split at h
    case h_2 => cases h
    cases h
    exact a23 ⟨_, _⟩ (by exact hbd) trivial K hK
end Go.Rs

