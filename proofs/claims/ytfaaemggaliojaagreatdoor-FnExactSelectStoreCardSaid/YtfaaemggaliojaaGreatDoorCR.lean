import Derived.Test.YtfaaemggaliojaaGreatDoorCQ
set_option linter.all false
set_option linter.unusedSimpArgs false
set_option linter.unusedVariables false
namespace Go.Rs
open Go.Proofs
set_option maxRecDepth 100000
noncomputable def v48 (f : Flt) : AV := .bool (filterM f)
noncomputable def o48 (f : Flt) : Prop := True
noncomputable def F48 : List AV → QR
  | [.st [.ps .str f_0, .int .i64 f_1, .int .i64 f_2_0, .int .i64 f_2_1, .str f_2_2, .ps .str f_2_3, .ps .node f_2_4]] => some (none, v48 ⟨f_0, f_1, ⟨f_2_0, f_2_1, f_2_2, f_2_3, f_2_4⟩⟩)
  | _ => none
noncomputable def E48 : Ctx := mkE tab [(47, .pure F47), (65, .pure F65)]
noncomputable def O48 : Nat → List DI := ordL []
theorem a48 (f : Flt) (hb : BdAs [.st (flC f)]) (ho : o48 f) (K : AV → List AV → Prop) (hK : K (v48 f) []) : abody E48 O48 .ps Tryz.f48 (Tryz.f48.body.getD .skip) [.st (flC f)] K := by
  simp only [BdAs, BdA, BdL, BdC, MX, ndC, shC, itC, stC, opC, chC, nwC, flC, rqC, rsC, enc, List.cons_append, List.nil_append, and_true, true_and] at hb
  unfold v48 at hK
  conv => whnf
  repeat' first|(refine Cnd.mk (fun h=>?_) (fun h=>?_)<;>(try simp [etas,elDef,-List.getD_eq_getElem?_getD] at h)<;>conv=>whnf)|(refine Obl.mk (by first|omega|rfl|exact inK_byte _|(simp only [inK,Int.toNat_natCast,etas,elDef]<;>first|omega|grind)|grind [inK]) ?_<;>conv=>whnf)|(refine OblG.mk (by ((conv=>whnf);(repeat (first|(refine Bx.mk ?_)|(intro h;(try simp [etas,elDef,-List.getD_eq_getElem?_getD] at h);conv=>whnf)));(first|omega|rfl|exact inK_byte _|(simp only [inK,Int.toNat_natCast,etas,elDef]<;>first|omega|grind)|grind [inK]))) ?_<;>conv=>whnf)|(refine Gd.mk (fun h=>?_)<;>(try simp [etas,elDef,-List.getD_eq_getElem?_getD] at h)<;>conv=>whnf)|(refine And.intro ?_ ?_<;>conv=>whnf)|exact True.intro|(intro;conv=>whnf)
  all_goals exact leafB hK (by simp only [filterM, nd_eta]; grind)
theorem s48 : (CtrOK Tryz.prog 48 (.pure F48) ∧ Callable Tryz.prog 48) := by
  refine pure_ok (E := E48) (mkE_cons s47 (mkE_cons s65 (mkE_nil tab_ok))) mix (O := O48) (F := F48) Tryz.func48 rfl (by rfl) (by kernel_rfl) (fun args o v h => ?_) (fun args o v h => ?_) (fun args o v h hbd hp K hK => ?_)
  · unfold F48 at h; split at h <;> cases h; first | trivial | (simp [v48, Scalar, Scalar2, Scalar1, stC, ndC, itC, chC, nwC])
  · unfold F48 at h; split at h <;> cases h; exact Nat.le_of_ble_eq_true rfl
  · unfold F48 at h; split at h
    case h_2 => cases h
    cases h
    exact a48 ⟨_, _, ⟨_, _, _, _, _⟩⟩ (by exact hbd) trivial K hK
noncomputable def v40 (f : Flt) : AV := .bool (filterM f)
noncomputable def o40 (f : Flt) : Prop := True
noncomputable def F40 : List AV → QR
  | [.st [.ps .str f_0, .int .i64 f_1, .int .i64 f_2_0, .int .i64 f_2_1, .str f_2_2, .ps .str f_2_3, .ps .node f_2_4]] => some (none, v40 ⟨f_0, f_1, ⟨f_2_0, f_2_1, f_2_2, f_2_3, f_2_4⟩⟩)
  | _ => none
noncomputable def E40 : Ctx := mkE tab [(38, .pure F38), (39, .pure F39), (59, .pure F59)]
noncomputable def O40 : Nat → List DI := ordL []
theorem a40 (f : Flt) (hb : BdAs [.st (flC f)]) (ho : o40 f) (K : AV → List AV → Prop) (hK : K (v40 f) []) : abody E40 O40 .ps Tryz.f40 (Tryz.f40.body.getD .skip) [.st (flC f)] K := by
  simp only [BdAs, BdA, BdL, BdC, MX, ndC, shC, itC, stC, opC, chC, nwC, flC, rqC, rsC, enc, List.cons_append, List.nil_append, and_true, true_and] at hb
  unfold v40 at hK
  conv => whnf
  repeat' first|(refine Cnd.mk (fun h=>?_) (fun h=>?_)<;>(try simp [etas,elDef,-List.getD_eq_getElem?_getD] at h)<;>conv=>whnf)|(refine Obl.mk (by first|omega|rfl|exact inK_byte _|(simp only [inK,Int.toNat_natCast,etas,elDef]<;>first|omega|grind)|grind [inK]) ?_<;>conv=>whnf)|(refine OblG.mk (by ((conv=>whnf);(repeat (first|(refine Bx.mk ?_)|(intro h;(try simp [etas,elDef,-List.getD_eq_getElem?_getD] at h);conv=>whnf)));(first|omega|rfl|exact inK_byte _|(simp only [inK,Int.toNat_natCast,etas,elDef]<;>first|omega|grind)|grind [inK]))) ?_<;>conv=>whnf)|(refine Gd.mk (fun h=>?_)<;>(try simp [etas,elDef,-List.getD_eq_getElem?_getD] at h)<;>conv=>whnf)|(refine And.intro ?_ ?_<;>conv=>whnf)|exact True.intro|(intro;conv=>whnf)
  all_goals exact leafB hK (by simp only [filterM, nd_eta]; first | done | grind)
theorem s40 : (CtrOK Tryz.prog 40 (.pure F40) ∧ Callable Tryz.prog 40) := by
  refine pure_ok (E := E40) (mkE_cons s38 (mkE_cons s39 (mkE_cons s59 (mkE_nil tab_ok)))) mix (O := O40) (F := F40) Tryz.func40 rfl (by rfl) (by kernel_rfl) (fun args o v h => ?_) (fun args o v h => ?_) (fun args o v h hbd hp K hK => ?_)
  · unfold F40 at h; split at h <;> cases h; first | trivial | (simp [v40, Scalar, Scalar2, Scalar1, stC, ndC, itC, chC, nwC])
  · unfold F40 at h; split at h <;> cases h; exact Nat.le_of_ble_eq_true rfl
  · unfold F40 at h; split at h
    case h_2 => cases h
    cases h
    exact a40 ⟨_, _, ⟨_, _, _, _, _⟩⟩ (by exact hbd) trivial K hK
noncomputable def v61 (a : Nd) (b : Nd) : AV := .bool (decide (cmpN a b = 0))
noncomputable def o61 (a : Nd) (b : Nd) : Prop := okN a ∧ okN b
noncomputable def F61 : List AV → QR
  | [.st [.int .i64 a_0, .int .i64 a_1, .str a_2, .ps .str a_3, .ps .node a_4], .st [.int .i64 b_0, .int .i64 b_1, .str b_2, .ps .str b_3, .ps .node b_4]] => some (some (o61 ⟨a_0, a_1, a_2, a_3, a_4⟩ ⟨b_0, b_1, b_2, b_3, b_4⟩), v61 ⟨a_0, a_1, a_2, a_3, a_4⟩ ⟨b_0, b_1, b_2, b_3, b_4⟩)
  | _ => none
noncomputable def E61 : Ctx := mkE tab [(62, .pure F62)]
noncomputable def O61 : Nat → List DI := ordL []
theorem a61 (a : Nd) (b : Nd) (hb : BdAs [.st (ndC a), .st (ndC b)]) (ho : o61 a b) (K : AV → List AV → Prop) (hK : K (v61 a b) []) : abody E61 O61 .ps Tryz.f61 (Tryz.f61.body.getD .skip) [.st (ndC a), .st (ndC b)] K := by
  simp only [BdAs, BdA, BdL, BdC, MX, ndC, shC, itC, stC, opC, chC, nwC, flC, rqC, rsC, enc, List.cons_append, List.nil_append, and_true, true_and] at hb
  unfold o61 at ho
  unfold v61 at hK
  conv => whnf
  repeat' first|(refine Cnd.mk (fun h=>?_) (fun h=>?_)<;>(try simp [etas,elDef,-List.getD_eq_getElem?_getD] at h)<;>conv=>whnf)|(refine Obl.mk (by first|omega|rfl|exact inK_byte _|(simp only [inK,Int.toNat_natCast,etas,elDef,o62,m62]<;>first|omega|grind)|grind [inK,o62,m62]) ?_<;>conv=>whnf)|(refine OblG.mk (by ((conv=>whnf);(repeat (first|(refine Bx.mk ?_)|(intro h;(try simp [etas,elDef,-List.getD_eq_getElem?_getD] at h);conv=>whnf)));(first|omega|rfl|exact inK_byte _|(simp only [inK,Int.toNat_natCast,etas,elDef,o62,m62]<;>first|omega|grind)|grind [inK,o62,m62]))) ?_<;>conv=>whnf)|(refine Gd.mk (fun h=>?_)<;>(try simp [etas,elDef,-List.getD_eq_getElem?_getD] at h)<;>conv=>whnf)|(refine And.intro ?_ ?_<;>conv=>whnf)|exact True.intro|(intro;conv=>whnf)
  all_goals first | exact hK | exact leafB hK (by simp only [nd_eta])
theorem s61 : (CtrOK Tryz.prog 61 (.pure F61) ∧ Callable Tryz.prog 61) := by
  refine pure_ok (E := E61) (mkE_cons s62 (mkE_nil tab_ok)) mix (O := O61) (F := F61) Tryz.func61 rfl (by rfl) (by kernel_rfl) (fun args o v h => ?_) (fun args o v h => ?_) (fun args o v h hbd hp K hK => ?_)
  · unfold F61 at h; split at h <;> cases h; first | trivial | (simp [v61, Scalar, Scalar2, Scalar1, stC, ndC, itC, chC, nwC])
  · unfold F61 at h; split at h <;> cases h; exact Nat.le_of_ble_eq_true rfl
  · unfold F61 at h; split at h
    case h_2 => cases h
    cases h
    exact a61 ⟨_, _, _, _, _⟩ ⟨_, _, _, _, _⟩ (by exact hbd) (hp _ rfl) K hK
noncomputable def v49 (n : Nd) (f : Flt) : AV := .bool (matchM n f)
noncomputable def o49 (n : Nd) (f : Flt) : Prop := True
noncomputable def F49 : List AV → QR
  | [.st [.int .i64 n_0, .int .i64 n_1, .str n_2, .ps .str n_3, .ps .node n_4], .st [.ps .str f_0, .int .i64 f_1, .int .i64 f_2_0, .int .i64 f_2_1, .str f_2_2, .ps .str f_2_3, .ps .node f_2_4]] => some (none, v49 ⟨n_0, n_1, n_2, n_3, n_4⟩ ⟨f_0, f_1, ⟨f_2_0, f_2_1, f_2_2, f_2_3, f_2_4⟩⟩)
  | _ => none
noncomputable def E49 : Ctx := mkE tab [(47, .pure F47), (48, .pure F48), (66, .gen .ps C66), (67, .pure F67)]
noncomputable def O49 : Nat → List DI := ordL []
theorem a49 (n : Nd) (f : Flt) (hb : BdAs [.st (ndC n), .st (flC f)]) (ho : o49 n f) (K : AV → List AV → Prop) (hK : K (v49 n f) []) : abody E49 O49 .ps Tryz.f49 (Tryz.f49.body.getD .skip) [.st (ndC n), .st (flC f)] K := by
  simp only [BdAs, BdA, BdL, BdC, MX, ndC, shC, itC, stC, opC, chC, nwC, flC, rqC, rsC, enc, List.cons_append, List.nil_append, and_true, true_and] at hb
  unfold v49 at hK
  have h1 := fun h => validM_ok (n := n) h
  have h2 : validM n = true → okN ((findM n f.path).getD default) := fun h => by
    cases e : findM n f.path with
    | none => exact okN_default
    | some m => exact findM_ok (validM_ok h) e
  have h3 : filterM f = true → okN f.value := fun h => by simp only [filterM, Bool.and_eq_true] at h; exact validM_ok h.2
  have h4 := fun m (e : findM n f.path = some m) => (show matchesM n f = testM f.test m f.value by unfold matchesM; rw [e])
  conv => whnf
  repeat' first|(refine Cnd.mk (fun h=>?_) (fun h=>?_)<;>(try simp [etas,elDef,-List.getD_eq_getElem?_getD] at h)<;>conv=>whnf)|(refine Obl.mk (by first|omega|rfl|exact inK_byte _|(simp only [inK,Int.toNat_natCast,etas,elDef,o67,m67]<;>first|omega|grind)|grind [inK,o67,m67]) ?_<;>conv=>whnf)|(refine OblG.mk (by ((conv=>whnf);(repeat (first|(refine Bx.mk ?_)|(intro h;(try simp [etas,elDef,-List.getD_eq_getElem?_getD] at h);conv=>whnf)));(first|omega|rfl|exact inK_byte _|(simp only [inK,Int.toNat_natCast,etas,elDef,o67,m67]<;>first|omega|grind)|grind [inK,o67,m67]))) ?_<;>conv=>whnf)|(refine Gd.mk (fun h=>?_)<;>(try simp [etas,elDef,-List.getD_eq_getElem?_getD] at h)<;>conv=>whnf)|(refine And.intro ?_ ?_<;>conv=>whnf)|exact True.intro|(intro;conv=>whnf)
  · exact leafB hK (by simp only [matchM]; grind)
  · exact leafB hK (by simp only [matchM, matchesM]; rw [h]; simp)
  all_goals
    obtain ⟨m, hm⟩ := Option.isSome_iff_exists.1 (by assumption)
    refine leafB hK ?_
    simp only [matchM, h4 _ hm, hm, testM, Option.getD_some, nd_eta]
    first | done | grind
theorem s49 : (CtrOK Tryz.prog 49 (.pure F49) ∧ Callable Tryz.prog 49) := by
  refine pure_ok (E := E49) (mkE_cons s47 (mkE_cons s48 (mkE_cons s66 (mkE_cons s67 (mkE_nil tab_ok))))) mix (O := O49) (F := F49) Tryz.func49 rfl (by rfl) (by kernel_rfl) (fun args o v h => ?_) (fun args o v h => ?_) (fun args o v h hbd hp K hK => ?_)
  · unfold F49 at h; split at h <;> cases h; first | trivial | (simp [v49, Scalar, Scalar2, Scalar1, stC, ndC, itC, chC, nwC])
  · unfold F49 at h; split at h <;> cases h; exact Nat.le_of_ble_eq_true rfl
  · unfold F49 at h; split at h
    case h_2 => cases h
    cases h
    exact a49 ⟨_, _, _, _, _⟩ ⟨_, _, ⟨_, _, _, _, _⟩⟩ (by exact hbd) trivial K hK
noncomputable def v42 (n : Nd) (f : Flt) : AV := .bool (matchesM n f)
noncomputable def o42 (n : Nd) (f : Flt) : Prop := okN n ∧ okN f.value
noncomputable def F42 : List AV → QR
  | [.st [.int .i64 n_0, .int .i64 n_1, .str n_2, .ps .str n_3, .ps .node n_4], .st [.ps .str f_0, .int .i64 f_1, .int .i64 f_2_0, .int .i64 f_2_1, .str f_2_2, .ps .str f_2_3, .ps .node f_2_4]] => some (some (o42 ⟨n_0, n_1, n_2, n_3, n_4⟩ ⟨f_0, f_1, ⟨f_2_0, f_2_1, f_2_2, f_2_3, f_2_4⟩⟩), v42 ⟨n_0, n_1, n_2, n_3, n_4⟩ ⟨f_0, f_1, ⟨f_2_0, f_2_1, f_2_2, f_2_3, f_2_4⟩⟩)
  | _ => none
noncomputable def E42 : Ctx := mkE tab [(60, .gen .ps C60), (61, .pure F61), (62, .pure F62)]
noncomputable def O42 : Nat → List DI := ordL []
theorem a42 (n : Nd) (f : Flt) (hb : BdAs [.st (ndC n), .st (flC f)]) (ho : o42 n f) (K : AV → List AV → Prop) (hK : K (v42 n f) []) : abody E42 O42 .ps Tryz.f42 (Tryz.f42.body.getD .skip) [.st (ndC n), .st (flC f)] K := by
  simp only [BdAs, BdA, BdL, BdC, MX, ndC, shC, itC, stC, opC, chC, nwC, flC, rqC, rsC, enc, List.cons_append, List.nil_append, and_true, true_and] at hb
  unfold o42 at ho
  unfold v42 at hK
  obtain ⟨ho, ho2⟩ := ho
  have h2 : okN ((findM n f.path).getD default) := by
    cases e : findM n f.path with
    | none => exact okN_default
    | some m => exact findM_ok ho e
  conv => whnf
  repeat' first|(refine Cnd.mk (fun h=>?_) (fun h=>?_)<;>(try simp [etas,elDef,-List.getD_eq_getElem?_getD] at h)<;>conv=>whnf)|(refine Obl.mk (by first|omega|rfl|exact inK_byte _|(simp only [inK,Int.toNat_natCast,etas,elDef,o61,o62,m62]<;>first|omega|grind)|grind [inK,o61,o62,m62]) ?_<;>conv=>whnf)|(refine OblG.mk (by ((conv=>whnf);(repeat (first|(refine Bx.mk ?_)|(intro h;(try simp [etas,elDef,-List.getD_eq_getElem?_getD] at h);conv=>whnf)));(first|omega|rfl|exact inK_byte _|(simp only [inK,Int.toNat_natCast,etas,elDef,o61,o62,m62]<;>first|omega|grind)|grind [inK,o61,o62,m62]))) ?_<;>conv=>whnf)|(refine Gd.mk (fun h=>?_)<;>(try simp [etas,elDef,-List.getD_eq_getElem?_getD] at h)<;>conv=>whnf)|(refine And.intro ?_ ?_<;>conv=>whnf)|exact True.intro|(intro;conv=>whnf)
  · exact leafB hK (by simp only [matchesM]; rw [h])
  all_goals
    obtain ⟨m, hm⟩ := Option.isSome_iff_exists.1 (by assumption)
    refine leafB hK ?_
    simp only [matchesM, hm, testM, Option.getD_some, nd_eta]
    first | done | grind
theorem s42 : (CtrOK Tryz.prog 42 (.pure F42) ∧ Callable Tryz.prog 42) := by
  refine pure_ok (E := E42) (mkE_cons s60 (mkE_cons s61 (mkE_cons s62 (mkE_nil tab_ok)))) mix (O := O42) (F := F42) Tryz.func42 rfl (by rfl) (by kernel_rfl) (fun args o v h => ?_) (fun args o v h => ?_) (fun args o v h hbd hp K hK => ?_)
  · unfold F42 at h; split at h <;> cases h; first | trivial | (simp [v42, Scalar, Scalar2, Scalar1, stC, ndC, itC, chC, nwC])
  · unfold F42 at h; split at h <;> cases h; exact Nat.le_of_ble_eq_true rfl
  · unfold F42 at h; split at h
    case h_2 => cases h
    cases h
    exact a42 ⟨_, _, _, _, _⟩ ⟨_, _, ⟨_, _, _, _, _⟩⟩ (by exact hbd) (hp _ rfl) K hK
end Go.Rs

