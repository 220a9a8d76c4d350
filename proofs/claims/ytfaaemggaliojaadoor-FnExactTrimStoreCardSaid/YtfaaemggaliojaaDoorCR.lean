import Derived.Test.YtfaaemggaliojaaDoorCQ
set_option linter.all false
set_option linter.unusedSimpArgs false
set_option linter.unusedVariables false
namespace Go.Rs
open Go.Proofs
set_option maxRecDepth 100000
noncomputable def v75 (f : Flt) : AV := .bool (filterM f)
noncomputable def o75 (f : Flt) : Prop := True
noncomputable def F75 : List AV → QR
  | [.st [.ps .str f_0, .int .i64 f_1, .int .i64 f_2_0, .int .i64 f_2_1, .str f_2_2, .ps .str f_2_3, .ps .node f_2_4]] => some (none, v75 ⟨f_0, f_1, ⟨f_2_0, f_2_1, f_2_2, f_2_3, f_2_4⟩⟩)
  | _ => none
noncomputable def E75 : Ctx := mkE tab [(64, .pure F64), (89, .pure F89)]
noncomputable def O75 : Nat → List DI := ordL []
theorem a75 (f : Flt) (hb : BdAs [.st (flC f)]) (ho : o75 f) (K : AV → List AV → Prop) (hK : K (v75 f) []) : abody E75 O75 .ps Tryd.f75 (Tryd.f75.body.getD .skip) [.st (flC f)] K := by
  simp only [BdAs, BdA, BdL, BdC, MX, ndC, shC, itC, stC, opC, chC, nwC, flC, rqC, rsC, enc, List.cons_append, List.nil_append, and_true, true_and] at hb
  unfold v75 at hK
  conv => whnf
  repeat' first|((first|refine Cnd.mk (fun h=>?_) (fun h=>?_)|refine Gd.mk (fun h=>?_))<;>(try simp [etas,elDef,-List.getD_eq_getElem?_getD] at h)<;>conv=>whnf)|((first|refine Obl.mk (by first|omega|rfl|exact inK_byte _|(simp only [inK,Int.toNat_natCast,etas,elDef]<;>first|omega|grind)|grind [inK]) ?_|refine OblG.mk (by ((conv=>whnf);(repeat (first|refine Bx.mk ?_|(intro h;(try simp [etas,elDef,-List.getD_eq_getElem?_getD] at h);conv=>whnf)));(first|omega|rfl|exact inK_byte _|(simp only [inK,Int.toNat_natCast,etas,elDef]<;>first|omega|grind)|grind [inK]))) ?_|refine And.intro ?_ ?_)<;>conv=>whnf)|exact True.intro|(intro;conv=>whnf)
  all_goals exact leafB hK (by simp only [filterM, nd_eta]; grind)
theorem s75 : (CtrOK Tryd.prog 75 (.pure F75) ∧ Callable Tryd.prog 75) := by
  refine pure_ok (E := E75) (mkE_cons s64 (mkE_cons s89 (mkE_nil tab_ok))) mix (O := O75) (F := F75) Tryd.func75 rfl (by rfl) (by kernel_rfl) (fun args o v h => ?_) (fun args o v h => ?_) (fun args o v h hbd hp K hK => ?_)
  · unfold F75 at h; split at h <;> cases h; first | trivial | (simp [v75, Scalar, Scalar2, Scalar1, stC, ndC, itC, chC, nwC])
  · unfold F75 at h; split at h <;> cases h; exact Nat.le_of_ble_eq_true rfl
  · unfold F75 at h; split at h
    case h_2 => cases h
    cases h
    exact a75 ⟨_, _, ⟨_, _, _, _, _⟩⟩ (by exact hbd) trivial K hK
noncomputable def v51 (f : Flt) : AV := .bool (filterM f)
noncomputable def o51 (f : Flt) : Prop := True
noncomputable def F51 : List AV → QR
  | [.st [.ps .str f_0, .int .i64 f_1, .int .i64 f_2_0, .int .i64 f_2_1, .str f_2_2, .ps .str f_2_3, .ps .node f_2_4]] => some (none, v51 ⟨f_0, f_1, ⟨f_2_0, f_2_1, f_2_2, f_2_3, f_2_4⟩⟩)
  | _ => none
noncomputable def E51 : Ctx := mkE tab [(49, .pure F49), (50, .pure F50), (70, .pure F70)]
noncomputable def O51 : Nat → List DI := ordL []
theorem a51 (f : Flt) (hb : BdAs [.st (flC f)]) (ho : o51 f) (K : AV → List AV → Prop) (hK : K (v51 f) []) : abody E51 O51 .ps Tryd.f51 (Tryd.f51.body.getD .skip) [.st (flC f)] K := by
  simp only [BdAs, BdA, BdL, BdC, MX, ndC, shC, itC, stC, opC, chC, nwC, flC, rqC, rsC, enc, List.cons_append, List.nil_append, and_true, true_and] at hb
  unfold v51 at hK
  conv => whnf
  repeat' first|((first|refine Cnd.mk (fun h=>?_) (fun h=>?_)|refine Gd.mk (fun h=>?_))<;>(try simp [etas,elDef,-List.getD_eq_getElem?_getD] at h)<;>conv=>whnf)|((first|refine Obl.mk (by first|omega|rfl|exact inK_byte _|(simp only [inK,Int.toNat_natCast,etas,elDef]<;>first|omega|grind)|grind [inK]) ?_|refine OblG.mk (by ((conv=>whnf);(repeat (first|refine Bx.mk ?_|(intro h;(try simp [etas,elDef,-List.getD_eq_getElem?_getD] at h);conv=>whnf)));(first|omega|rfl|exact inK_byte _|(simp only [inK,Int.toNat_natCast,etas,elDef]<;>first|omega|grind)|grind [inK]))) ?_|refine And.intro ?_ ?_)<;>conv=>whnf)|exact True.intro|(intro;conv=>whnf)
  all_goals exact leafB hK (by simp only [filterM, nd_eta]; first | done | grind)
theorem s51 : (CtrOK Tryd.prog 51 (.pure F51) ∧ Callable Tryd.prog 51) := by
  refine pure_ok (E := E51) (mkE_cons s49 (mkE_cons s50 (mkE_cons s70 (mkE_nil tab_ok)))) mix (O := O51) (F := F51) Tryd.func51 rfl (by rfl) (by kernel_rfl) (fun args o v h => ?_) (fun args o v h => ?_) (fun args o v h hbd hp K hK => ?_)
  · unfold F51 at h; split at h <;> cases h; first | trivial | (simp [v51, Scalar, Scalar2, Scalar1, stC, ndC, itC, chC, nwC])
  · unfold F51 at h; split at h <;> cases h; exact Nat.le_of_ble_eq_true rfl
  · unfold F51 at h; split at h
    case h_2 => cases h
    cases h
    exact a51 ⟨_, _, ⟨_, _, _, _, _⟩⟩ (by exact hbd) trivial K hK
noncomputable def v72 (a : Nd) (b : Nd) : AV := .bool (decide (cmpN a b = 0))
noncomputable def o72 (a : Nd) (b : Nd) : Prop := okN a ∧ okN b
noncomputable def F72 : List AV → QR
  | [.st [.int .i64 a_0, .int .i64 a_1, .str a_2, .ps .str a_3, .ps .node a_4], .st [.int .i64 b_0, .int .i64 b_1, .str b_2, .ps .str b_3, .ps .node b_4]] => some (some (o72 ⟨a_0, a_1, a_2, a_3, a_4⟩ ⟨b_0, b_1, b_2, b_3, b_4⟩), v72 ⟨a_0, a_1, a_2, a_3, a_4⟩ ⟨b_0, b_1, b_2, b_3, b_4⟩)
  | _ => none
noncomputable def E72 : Ctx := mkE tab [(73, .pure F73)]
noncomputable def O72 : Nat → List DI := ordL []
theorem a72 (a : Nd) (b : Nd) (hb : BdAs [.st (ndC a), .st (ndC b)]) (ho : o72 a b) (K : AV → List AV → Prop) (hK : K (v72 a b) []) : abody E72 O72 .ps Tryd.f72 (Tryd.f72.body.getD .skip) [.st (ndC a), .st (ndC b)] K := by
  simp only [BdAs, BdA, BdL, BdC, MX, ndC, shC, itC, stC, opC, chC, nwC, flC, rqC, rsC, enc, List.cons_append, List.nil_append, and_true, true_and] at hb
  unfold o72 at ho
  unfold v72 at hK
  conv => whnf
  repeat' first|((first|refine Cnd.mk (fun h=>?_) (fun h=>?_)|refine Gd.mk (fun h=>?_))<;>(try simp [etas,elDef,-List.getD_eq_getElem?_getD] at h)<;>conv=>whnf)|((first|refine Obl.mk (by first|omega|rfl|exact inK_byte _|(simp only [inK,Int.toNat_natCast,etas,elDef,o73,m73]<;>first|omega|grind)|grind [inK,o73,m73]) ?_|refine OblG.mk (by ((conv=>whnf);(repeat (first|refine Bx.mk ?_|(intro h;(try simp [etas,elDef,-List.getD_eq_getElem?_getD] at h);conv=>whnf)));(first|omega|rfl|exact inK_byte _|(simp only [inK,Int.toNat_natCast,etas,elDef,o73,m73]<;>first|omega|grind)|grind [inK,o73,m73]))) ?_|refine And.intro ?_ ?_)<;>conv=>whnf)|exact True.intro|(intro;conv=>whnf)
  all_goals first | exact hK | exact leafB hK (by simp only [nd_eta])
theorem s72 : (CtrOK Tryd.prog 72 (.pure F72) ∧ Callable Tryd.prog 72) := by
  refine pure_ok (E := E72) (mkE_cons s73 (mkE_nil tab_ok)) mix (O := O72) (F := F72) Tryd.func72 rfl (by rfl) (by kernel_rfl) (fun args o v h => ?_) (fun args o v h => ?_) (fun args o v h hbd hp K hK => ?_)
  · unfold F72 at h; split at h <;> cases h; first | trivial | (simp [v72, Scalar, Scalar2, Scalar1, stC, ndC, itC, chC, nwC])
  · unfold F72 at h; split at h <;> cases h; exact Nat.le_of_ble_eq_true rfl
  · unfold F72 at h; split at h
    case h_2 => cases h
    cases h
    exact a72 ⟨_, _, _, _, _⟩ ⟨_, _, _, _, _⟩ (by exact hbd) (hp _ rfl) K hK
noncomputable def v76 (n : Nd) (f : Flt) : AV := .bool (matchM n f)
noncomputable def o76 (n : Nd) (f : Flt) : Prop := True
noncomputable def F76 : List AV → QR
  | [.st [.int .i64 n_0, .int .i64 n_1, .str n_2, .ps .str n_3, .ps .node n_4], .st [.ps .str f_0, .int .i64 f_1, .int .i64 f_2_0, .int .i64 f_2_1, .str f_2_2, .ps .str f_2_3, .ps .node f_2_4]] => some (none, v76 ⟨n_0, n_1, n_2, n_3, n_4⟩ ⟨f_0, f_1, ⟨f_2_0, f_2_1, f_2_2, f_2_3, f_2_4⟩⟩)
  | _ => none
noncomputable def E76 : Ctx := mkE tab [(64, .pure F64), (75, .pure F75), (90, .gen .ps C90), (91, .pure F91)]
noncomputable def O76 : Nat → List DI := ordL []
theorem a76 (n : Nd) (f : Flt) (hb : BdAs [.st (ndC n), .st (flC f)]) (ho : o76 n f) (K : AV → List AV → Prop) (hK : K (v76 n f) []) : abody E76 O76 .ps Tryd.f76 (Tryd.f76.body.getD .skip) [.st (ndC n), .st (flC f)] K := by
  simp only [BdAs, BdA, BdL, BdC, MX, ndC, shC, itC, stC, opC, chC, nwC, flC, rqC, rsC, enc, List.cons_append, List.nil_append, and_true, true_and] at hb
  unfold v76 at hK
  have h1 := fun h => validM_ok (n := n) h
  have h2 : validM n = true → okN ((findM n f.path).getD default) := fun h => by
    cases e : findM n f.path with
    | none => exact okN_default
    | some m => exact findM_ok (validM_ok h) e
  have h3 : filterM f = true → okN f.value := fun h => by simp only [filterM, Bool.and_eq_true] at h; exact validM_ok h.2
  have h4 := fun m (e : findM n f.path = some m) => (show matchesM n f = testM f.test m f.value by unfold matchesM; rw [e])
  conv => whnf
  repeat' first|((first|refine Cnd.mk (fun h=>?_) (fun h=>?_)|refine Gd.mk (fun h=>?_))<;>(try simp [etas,elDef,-List.getD_eq_getElem?_getD] at h)<;>conv=>whnf)|((first|refine Obl.mk (by first|omega|rfl|exact inK_byte _|(simp only [inK,Int.toNat_natCast,etas,elDef,o91,m91]<;>first|omega|grind)|grind [inK,o91,m91]) ?_|refine OblG.mk (by ((conv=>whnf);(repeat (first|refine Bx.mk ?_|(intro h;(try simp [etas,elDef,-List.getD_eq_getElem?_getD] at h);conv=>whnf)));(first|omega|rfl|exact inK_byte _|(simp only [inK,Int.toNat_natCast,etas,elDef,o91,m91]<;>first|omega|grind)|grind [inK,o91,m91]))) ?_|refine And.intro ?_ ?_)<;>conv=>whnf)|exact True.intro|(intro;conv=>whnf)
  · exact leafB hK (by simp only [matchM]; grind)
  · exact leafB hK (by simp only [matchM, matchesM]; rw [h]; simp)
  all_goals
    obtain ⟨m, hm⟩ := Option.isSome_iff_exists.1 (by assumption)
    refine leafB hK ?_
    simp only [matchM, h4 _ hm, hm, testM, Option.getD_some, nd_eta]
    first | done | grind
theorem s76 : (CtrOK Tryd.prog 76 (.pure F76) ∧ Callable Tryd.prog 76) := by
  refine pure_ok (E := E76) (mkE_cons s64 (mkE_cons s75 (mkE_cons s90 (mkE_cons s91 (mkE_nil tab_ok))))) mix (O := O76) (F := F76) Tryd.func76 rfl (by rfl) (by kernel_rfl) (fun args o v h => ?_) (fun args o v h => ?_) (fun args o v h hbd hp K hK => ?_)
  · unfold F76 at h; split at h <;> cases h; first | trivial | (simp [v76, Scalar, Scalar2, Scalar1, stC, ndC, itC, chC, nwC])
  · unfold F76 at h; split at h <;> cases h; exact Nat.le_of_ble_eq_true rfl
  · unfold F76 at h; split at h
    case h_2 => cases h
    cases h
    exact a76 ⟨_, _, _, _, _⟩ ⟨_, _, ⟨_, _, _, _, _⟩⟩ (by exact hbd) trivial K hK
noncomputable def v52 (n : Nd) (f : Flt) : AV := .bool (matchesM n f)
noncomputable def o52 (n : Nd) (f : Flt) : Prop := okN n ∧ okN f.value
noncomputable def F52 : List AV → QR
  | [.st [.int .i64 n_0, .int .i64 n_1, .str n_2, .ps .str n_3, .ps .node n_4], .st [.ps .str f_0, .int .i64 f_1, .int .i64 f_2_0, .int .i64 f_2_1, .str f_2_2, .ps .str f_2_3, .ps .node f_2_4]] => some (some (o52 ⟨n_0, n_1, n_2, n_3, n_4⟩ ⟨f_0, f_1, ⟨f_2_0, f_2_1, f_2_2, f_2_3, f_2_4⟩⟩), v52 ⟨n_0, n_1, n_2, n_3, n_4⟩ ⟨f_0, f_1, ⟨f_2_0, f_2_1, f_2_2, f_2_3, f_2_4⟩⟩)
  | _ => none
noncomputable def E52 : Ctx := mkE tab [(71, .gen .ps C71), (72, .pure F72), (73, .pure F73)]
noncomputable def O52 : Nat → List DI := ordL []
theorem a52 (n : Nd) (f : Flt) (hb : BdAs [.st (ndC n), .st (flC f)]) (ho : o52 n f) (K : AV → List AV → Prop) (hK : K (v52 n f) []) : abody E52 O52 .ps Tryd.f52 (Tryd.f52.body.getD .skip) [.st (ndC n), .st (flC f)] K := by
  simp only [BdAs, BdA, BdL, BdC, MX, ndC, shC, itC, stC, opC, chC, nwC, flC, rqC, rsC, enc, List.cons_append, List.nil_append, and_true, true_and] at hb
  unfold o52 at ho
  unfold v52 at hK
  obtain ⟨ho, ho2⟩ := ho
  have h2 : okN ((findM n f.path).getD default) := by
    cases e : findM n f.path with
    | none => exact okN_default
    | some m => exact findM_ok ho e
  conv => whnf
  repeat' first|((first|refine Cnd.mk (fun h=>?_) (fun h=>?_)|refine Gd.mk (fun h=>?_))<;>(try simp [etas,elDef,-List.getD_eq_getElem?_getD] at h)<;>conv=>whnf)|((first|refine Obl.mk (by first|omega|rfl|exact inK_byte _|(simp only [inK,Int.toNat_natCast,etas,elDef,o72,o73,m73]<;>first|omega|grind)|grind [inK,o72,o73,m73]) ?_|refine OblG.mk (by ((conv=>whnf);(repeat (first|refine Bx.mk ?_|(intro h;(try simp [etas,elDef,-List.getD_eq_getElem?_getD] at h);conv=>whnf)));(first|omega|rfl|exact inK_byte _|(simp only [inK,Int.toNat_natCast,etas,elDef,o72,o73,m73]<;>first|omega|grind)|grind [inK,o72,o73,m73]))) ?_|refine And.intro ?_ ?_)<;>conv=>whnf)|exact True.intro|(intro;conv=>whnf)
  · exact leafB hK (by simp only [matchesM]; rw [h])
  all_goals
    obtain ⟨m, hm⟩ := Option.isSome_iff_exists.1 (by assumption)
    refine leafB hK ?_
    simp only [matchesM, hm, testM, Option.getD_some, nd_eta]
    first | done | grind
theorem s52 : (CtrOK Tryd.prog 52 (.pure F52) ∧ Callable Tryd.prog 52) := by
  refine pure_ok (E := E52) (mkE_cons s71 (mkE_cons s72 (mkE_cons s73 (mkE_nil tab_ok)))) mix (O := O52) (F := F52) Tryd.func52 rfl (by rfl) (by kernel_rfl) (fun args o v h => ?_) (fun args o v h => ?_) (fun args o v h hbd hp K hK => ?_)
  · unfold F52 at h; split at h <;> cases h; first | trivial | (simp [v52, Scalar, Scalar2, Scalar1, stC, ndC, itC, chC, nwC])
  · unfold F52 at h; split at h <;> cases h; exact Nat.le_of_ble_eq_true rfl
  · unfold F52 at h; split at h
    case h_2 => cases h
    cases h
    exact a52 ⟨_, _, _, _, _⟩ ⟨_, _, ⟨_, _, _, _, _⟩⟩ (by exact hbd) (hp _ rfl) K hK
end Go.Rs

