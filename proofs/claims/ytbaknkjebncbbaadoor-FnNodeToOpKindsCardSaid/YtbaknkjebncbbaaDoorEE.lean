import Derived.Test.YtbaknkjebncbbaaDoorDG
import Derived.Test.YtbaknkjebncbbaaDoorCR
import Derived.Test.YtbaknkjebncbbaaDoorMC
import Derived.Test.YtbaknkjebncbbaaDoorCT
import Derived.Test.YtbaknkjebncbbaaDoorCU
import Derived.Test.YtbaknkjebncbbaaDoorDI
set_option linter.all false
namespace Go.Rs
open Go.Proofs
set_option maxRecDepth 100000
set_option linter.unusedVariables false
set_option linter.unusedSimpArgs false
def wordN (s : Bs) : Nd := ⟨2, 0, s, [], []⟩
def pathN (p : List Bs) : Nd := ⟨3, 0, [], [], p.map wordN⟩
def opWordM (k : Int) : Bs := if k = 1 then [97, 100, 100] else if k = 2 then [114, 101, 109, 111, 118, 101] else if k = 3 then [114, 101, 112, 108, 97, 99, 101] else if k = 4 then [109, 111, 118, 101] else if k = 5 then [99, 111, 112, 121] else if k = 6 then [116, 101, 115, 116] else []
def opOk (o : Opn) : Bool := decide (1 ≤ o.kind) && decide (o.kind ≤ 6) && pathM o.path && pathM o.frm && validM o.value
def opN (o : Opn) : Nd := ⟨4, 0, [], [[102, 114, 111, 109], [111, 112], [112, 97, 116, 104], [118, 97, 108, 117, 101]], [pathN o.frm, wordN (opWordM o.kind), pathN o.path, o.value]⟩
def opNodeM (o : Opn) : Option Nd := if opOk o && validM (opN o) then some (opN o) else none
theorem pathN_take {p : List Bs} {i : Nat} (h : i < p.length) : (p.take (i + 1)).map wordN = (p.take i).map wordN ++ [wordN (p.getD i [])] := by
  rw [← take_snoc [] h, List.map_append]; rfl
theorem opOk_facts {o : Opn} (h : opOk o = true) : (1 ≤ o.kind ∧ o.kind ≤ 6) ∧ pathM o.path = true ∧ pathM o.frm = true ∧ validM o.value = true ∧ o.path.length ≤ 5 ∧ o.frm.length ≤ 5 := by
  simp only [opOk, Bool.and_eq_true, decide_eq_true_eq] at h
  have h1 := h.1.1.2
  have h2 := h.1.2
  simp only [pathM, Bool.and_eq_true, decide_eq_true_eq] at h1 h2
  exact ⟨h.1.1.1, h.1.1.2, h.1.2, h.2, h1.1, h2.1⟩
theorem words_at {k : Int} (h1 : 1 ≤ k) (h2 : k ≤ 6) : ([[], [97, 100, 100], [114, 101, 109, 111, 118, 101], [114, 101, 112, 108, 97, 99, 101], [109, 111, 118, 101], [99, 111, 112, 121], [116, 101, 115, 116]] : List Bs).getD k.toNat [] = opWordM k := by
  rcases (by omega : k = 1 ∨ k = 2 ∨ k = 3 ∨ k = 4 ∨ k = 5 ∨ k = 6) with rfl | rfl | rfl | rfl | rfl | rfl <;> rfl
theorem kinds_law {o : Opn} {n : Nd} (h : opNodeM o = some n) : n.names = [[102, 114, 111, 109], [111, 112], [112, 97, 116, 104], [118, 97, 108, 117, 101]] ∧ nodeAtM n [[111, 112]] = some (wordN (opWordM o.kind)) ∧ nodeAtM n [[118, 97, 108, 117, 101]] = some o.value := by
  unfold opNodeM at h
  split at h
  case isFalse => cases h
  rename_i h1
  rw [Bool.and_eq_true] at h1
  cases h
  have p1 : placeM (opN o) [111, 112] = 1 := rfl
  have p2 : placeM (opN o) [118, 97, 108, 117, 101] = 3 := rfl
  have q1 : pathM [[111, 112]] = true := by decide
  have q2 : pathM [[118, 97, 108, 117, 101]] = true := by decide
  refine ⟨rfl, ?_, ?_⟩
  · unfold nodeAtM
    rw [h1.2, q1, Bool.and_self, if_pos rfl, findM, p1]
    rfl
  · unfold nodeAtM
    rw [h1.2, q2, Bool.and_self, if_pos rfl, findM, p2]
    rfl
noncomputable def v35 (o : Opn) : AV := .bool (opOk o)
noncomputable def o35 (o : Opn) : Prop := True
noncomputable def F35 : List AV → QR
  | [.st [.int .i64 o_0, .ps .str o_1, .ps .str o_2, .int .i64 o_3_0, .int .i64 o_3_1, .str o_3_2, .ps .str o_3_3, .ps .node o_3_4]] => some (none, v35 ⟨o_0, o_1, o_2, ⟨o_3_0, o_3_1, o_3_2, o_3_3, o_3_4⟩⟩)
  | _ => none
noncomputable def E35 : Ctx := mkE tab [(21, .pure F21), (25, .pure F25)]
noncomputable def O35 : Nat → List DI := ordL []
theorem a35 (o : Opn) (hb : BdAs [.st (opC o)]) (ho : o35 o) (K : AV → List AV → Prop) (hK : K (v35 o) []) : abody E35 O35 .ps Tryd.f35 (Tryd.f35.body.getD .skip) [.st (opC o)] K := by
  simp only [BdAs, BdA, BdL, BdC, MX, ndC, shC, itC, stC, opC, chC, nwC, flC, rqC, rsC, enc, List.cons_append, List.nil_append, and_true, true_and] at hb
  unfold v35 at hK
  conv => whnf
  repeat' first
    | (refine Cnd.mk (fun h => ?_) (fun h => ?_) <;> (try simp [etas, elDef, -List.getD_eq_getElem?_getD] at h) <;> conv => whnf)
    | (refine Obl.mk (by first | omega | rfl | exact inK_byte _ | (simp only [inK, Int.toNat_natCast, etas, elDef] <;> first | omega | grind) | grind [inK]) ?_ <;> conv => whnf)
    | (refine OblG.mk (by conv => whnf
                          repeat (first | (refine Bx.mk ?_) | (intro h; (try simp [etas, elDef, -List.getD_eq_getElem?_getD] at h); conv => whnf))
                          first | omega | rfl | exact inK_byte _ | (simp only [inK, Int.toNat_natCast, etas, elDef] <;> first | omega | grind) | grind [inK]) ?_ <;> conv => whnf)
    | (refine Gd.mk (fun h => ?_) <;> (try simp [etas, elDef, -List.getD_eq_getElem?_getD] at h) <;> conv => whnf)
    | (refine And.intro ?_ ?_ <;> conv => whnf)
    | exact True.intro
    | (intro; conv => whnf)
  exact leafB hK (by simp only [etas, opOk])
theorem s35 : (CtrOK Tryd.prog 35 (.pure F35) ∧ Callable Tryd.prog 35) := by
  refine pure_ok (E := E35) (mkE_cons s21 (mkE_cons s25 (mkE_nil tab_ok))) mix (O := O35) (F := F35) Tryd.func35 rfl (by rfl) (by kernel_rfl) (fun args o v h => ?_) (fun args o v h => ?_) (fun args o v h hbd hp K hK => ?_)
  · unfold F35 at h; split at h <;> cases h; first | trivial | (simp [v35, Scalar, Scalar2, Scalar1, stC, ndC, itC, chC, nwC])
  · unfold F35 at h; split at h <;> cases h; exact Nat.le_of_ble_eq_true rfl
  · unfold F35 at h; split at h
    case h_2 => cases h
    cases h
    exact a35 ⟨_, _, _, ⟨_, _, _, _, _⟩⟩ (by exact hbd) trivial K hK
noncomputable def v38 (o : Opn) : AV := .bool (opOk o)
noncomputable def o38 (o : Opn) : Prop := True
noncomputable def F38 : List AV → QR
  | [.st [.int .i64 o_0, .ps .str o_1, .ps .str o_2, .int .i64 o_3_0, .int .i64 o_3_1, .str o_3_2, .ps .str o_3_3, .ps .node o_3_4]] => some (none, v38 ⟨o_0, o_1, o_2, ⟨o_3_0, o_3_1, o_3_2, o_3_3, o_3_4⟩⟩)
  | _ => none
noncomputable def E38 : Ctx := mkE tab [(23, .pure F23), (61, .pure F61), (62, .pure F62)]
noncomputable def O38 : Nat → List DI := ordL []
theorem a38 (o : Opn) (hb : BdAs [.st (opC o)]) (ho : o38 o) (K : AV → List AV → Prop) (hK : K (v38 o) []) : abody E38 O38 .ps Tryd.f38 (Tryd.f38.body.getD .skip) [.st (opC o)] K := by
  simp only [BdAs, BdA, BdL, BdC, MX, ndC, shC, itC, stC, opC, chC, nwC, flC, rqC, rsC, enc, List.cons_append, List.nil_append, and_true, true_and] at hb
  unfold v38 at hK
  conv => whnf
  repeat' first
    | (refine Cnd.mk (fun h => ?_) (fun h => ?_) <;> (try simp [etas, elDef, -List.getD_eq_getElem?_getD] at h) <;> conv => whnf)
    | (refine Obl.mk (by first | omega | rfl | exact inK_byte _ | (simp only [inK, Int.toNat_natCast, etas, elDef] <;> first | omega | grind) | grind [inK]) ?_ <;> conv => whnf)
    | (refine OblG.mk (by conv => whnf
                          repeat (first | (refine Bx.mk ?_) | (intro h; (try simp [etas, elDef, -List.getD_eq_getElem?_getD] at h); conv => whnf))
                          first | omega | rfl | exact inK_byte _ | (simp only [inK, Int.toNat_natCast, etas, elDef] <;> first | omega | grind) | grind [inK]) ?_ <;> conv => whnf)
    | (refine Gd.mk (fun h => ?_) <;> (try simp [etas, elDef, -List.getD_eq_getElem?_getD] at h) <;> conv => whnf)
    | (refine And.intro ?_ ?_ <;> conv => whnf)
    | exact True.intro
    | (intro; conv => whnf)
  exact leafB hK (by simp only [etas]; rfl)
theorem s38 : (CtrOK Tryd.prog 38 (.pure F38) ∧ Callable Tryd.prog 38) := by
  refine pure_ok (E := E38) (mkE_cons s23 (mkE_cons s61 (mkE_cons s62 (mkE_nil tab_ok)))) mix (O := O38) (F := F38) Tryd.func38 rfl (by rfl) (by kernel_rfl) (fun args o v h => ?_) (fun args o v h => ?_) (fun args o v h hbd hp K hK => ?_)
  · unfold F38 at h; split at h <;> cases h; first | trivial | (simp [v38, Scalar, Scalar2, Scalar1, stC, ndC, itC, chC, nwC])
  · unfold F38 at h; split at h <;> cases h; exact Nat.le_of_ble_eq_true rfl
  · unfold F38 at h; split at h
    case h_2 => cases h
    cases h
    exact a38 ⟨_, _, _, ⟨_, _, _, _, _⟩⟩ (by exact hbd) trivial K hK
noncomputable def v37 (k : Int) : AV := .str (opWordM k)
noncomputable def o37 (k : Int) : Prop := True
noncomputable def F37 : List AV → QR
  | [.int .i64 k] => some (none, v37 k)
  | _ => none
noncomputable def E37 : Ctx := mkE tab []
noncomputable def O37 : Nat → List DI := ordL []
theorem a37 (k : Int) (hb : BdAs [.int .i64 k]) (ho : o37 k) (K : AV → List AV → Prop) (hK : K (v37 k) []) : abody E37 O37 .ps Tryd.f37 (Tryd.f37.body.getD .skip) [.int .i64 k] K := by
  simp only [BdAs, BdA, BdL, BdC, MX, ndC, shC, itC, stC, opC, chC, nwC, flC, rqC, rsC, enc, List.cons_append, List.nil_append, and_true, true_and] at hb
  unfold v37 at hK
  conv => whnf
  repeat' first
    | (refine Cnd.mk (fun h => ?_) (fun h => ?_) <;> (try simp [etas, elDef, -List.getD_eq_getElem?_getD] at h) <;> conv => whnf)
    | (refine Obl.mk (by first | omega | rfl | exact inK_byte _ | (simp only [inK, Int.toNat_natCast, etas, elDef] <;> first | omega | grind) | grind [inK]) ?_ <;> conv => whnf)
    | (refine OblG.mk (by conv => whnf
                          repeat (first | (refine Bx.mk ?_) | (intro h; (try simp [etas, elDef, -List.getD_eq_getElem?_getD] at h); conv => whnf))
                          first | omega | rfl | exact inK_byte _ | (simp only [inK, Int.toNat_natCast, etas, elDef] <;> first | omega | grind) | grind [inK]) ?_ <;> conv => whnf)
    | (refine Gd.mk (fun h => ?_) <;> (try simp [etas, elDef, -List.getD_eq_getElem?_getD] at h) <;> conv => whnf)
    | (refine And.intro ?_ ?_ <;> conv => whnf)
    | exact True.intro
    | (intro; conv => whnf)
  all_goals exact leafS hK (by simp [opWordM, *])
theorem s37 : (CtrOK Tryd.prog 37 (.pure F37) ∧ Callable Tryd.prog 37) := by
  refine pure_ok (E := E37) (mkE_nil tab_ok) mix (O := O37) (F := F37) Tryd.func37 rfl (by rfl) (by kernel_rfl) (fun args o v h => ?_) (fun args o v h => ?_) (fun args o v h hbd hp K hK => ?_)
  · unfold F37 at h; split at h <;> cases h; first | trivial | (simp [v37, Scalar, Scalar2, Scalar1, stC, ndC, itC, chC, nwC])
  · unfold F37 at h; split at h <;> cases h; exact Nat.le_of_ble_eq_true rfl
  · unfold F37 at h; split at h
    case h_2 => cases h
    cases h
    exact a37 _ (by exact hbd) trivial K hK
noncomputable def v36 (p : List Bs) : AV := .st (ndC (pathN p))
noncomputable def o36 (p : List Bs) : Prop := p.length ≤ 1000
noncomputable def F36 : List AV → QR
  | [.ps .str p] => some (some (o36 p), v36 p)
  | _ => none
noncomputable def E36 : Ctx := mkE tab []
noncomputable def O36 : Nat → List DI := ordL []
theorem a36 (p : List Bs) (hb : BdAs [.ps .str p]) (ho : o36 p) (K : AV → List AV → Prop) (hK : K (v36 p) []) : abody E36 O36 .ps Tryd.f36 (Tryd.f36.body.getD .skip) [.ps .str p] K := by
  simp only [BdAs, BdA, BdL, BdC, MX, ndC, shC, itC, stC, opC, chC, nwC, flC, rqC, rsC, enc, List.cons_append, List.nil_append, and_true, true_and] at hb
  unfold o36 at ho
  unfold v36 at hK
  conv => whnf
  repeat' first
    | (refine Cnd.mk (fun h => ?_) (fun h => ?_) <;> (try simp [etas, elDef, -List.getD_eq_getElem?_getD] at h) <;> conv => whnf)
    | (refine Obl.mk (by first | omega | rfl | exact inK_byte _ | (simp only [inK, Int.toNat_natCast, etas, elDef] <;> first | omega | grind) | grind [inK]) ?_ <;> conv => whnf)
    | (refine OblG.mk (by conv => whnf
                          repeat (first | (refine Bx.mk ?_) | (intro h; (try simp [etas, elDef, -List.getD_eq_getElem?_getD] at h); conv => whnf))
                          first | omega | rfl | exact inK_byte _ | (simp only [inK, Int.toNat_natCast, etas, elDef] <;> first | omega | grind) | grind [inK]) ?_ <;> conv => whnf)
    | (refine Gd.mk (fun h => ?_) <;> (try simp [etas, elDef, -List.getD_eq_getElem?_getD] at h) <;> conv => whnf)
    | (refine And.intro ?_ ?_ <;> conv => whnf)
    | exact True.intro
    | (intro; conv => whnf)
  refine aloop_intro (Nat × List Nd) (fun q => q.1 ≤ p.length ∧ q.2 = (p.take q.1).map wordN) (fun q => p.length - q.1) (fun q => [(9, .int .i64 q.1)]) (fun q => (3, .box [.int .i64 3, .int .i64 0, .str [], .nils .str, nlV .node q.2]) :: nlL .node q.2) [2] (0, []) [] [] ?_ ?_ (by exact sgOk_of (by rfl)) ?_
  · simp
  · (conv => whnf); (repeat' (first | exact trivial | rfl | (refine nilEq ?_; first | rfl | (simp only [*]; done) | (simp [*]; done) | grind) | apply And.intro | ((first | refine intEq ?_ | refine boolEq ?_ | refine strEq ?_ | refine psEq ?_ | refine nilEq ?_ | refine arrEq ?_); (try simp only [Int.toNat_natCast, etas, elDef]); first | done | omega | grind | (simp only [*]; done) | (simp [*]; done)))); (all_goals (conv => whnf)); (repeat' (first | exact trivial | rfl | (refine nilEq ?_; first | rfl | (simp only [*]; done) | (simp [*]; done) | grind) | apply And.intro | ((first | refine intEq ?_ | refine boolEq ?_ | refine strEq ?_ | refine psEq ?_ | refine nilEq ?_ | refine arrEq ?_); (try simp only [Int.toNat_natCast, etas, elDef]); first | done | omega | grind | (simp only [*]; done) | (simp [*]; done)) | ((try simp only [Int.toNat_natCast, etas, elDef]); first | done | omega | grind | (simp only [*]; done) | (simp [*]; done))))
  rintro ⟨i, _ | ⟨a, r⟩⟩ ⟨hi, hj⟩
  · dsimp only at hi hj
    have htk := fun h => pathN_take (p := p) (i := i) h
    conv => whnf
    repeat' first
      | (refine Cnd.mk (fun h => ?_) (fun h => ?_) <;> (try simp [etas, elDef, -List.getD_eq_getElem?_getD] at h) <;> conv => whnf)
      | (refine Obl.mk (by first | omega | rfl | exact inK_byte _ | (simp only [inK, Int.toNat_natCast, etas, elDef] <;> first | omega | grind) | grind [inK]) ?_ <;> conv => whnf)
      | (refine OblG.mk (by conv => whnf
                            repeat (first | (refine Bx.mk ?_) | (intro h; (try simp [etas, elDef, -List.getD_eq_getElem?_getD] at h); conv => whnf))
                            first | omega | rfl | exact inK_byte _ | (simp only [inK, Int.toNat_natCast, etas, elDef] <;> first | omega | grind) | grind [inK]) ?_ <;> conv => whnf)
      | (refine Gd.mk (fun h => ?_) <;> (try simp [etas, elDef, -List.getD_eq_getElem?_getD] at h) <;> conv => whnf)
      | (refine And.intro ?_ ?_ <;> conv => whnf)
      | exact True.intro
      | (intro; conv => whnf)
    · exact ⟨(i + 1, [wordN (p.getD i [])]), [(900, 18)], [], ⟨by simp only; omega, by simp only; rw [htk (by omega), ← hj]; rfl⟩, by simp only; omega, by (conv => whnf); (repeat' (first | exact trivial | rfl | (refine nilEq ?_; first | rfl | (simp only [*]; done) | (simp [*]; done) | grind) | apply And.intro | ((first | refine intEq ?_ | refine boolEq ?_ | refine strEq ?_ | refine psEq ?_ | refine nilEq ?_ | refine arrEq ?_); (try simp only [Int.toNat_natCast, etas, elDef]); first | done | omega | grind | (simp only [*]; done) | (simp [*]; done)))); (all_goals (conv => whnf)); (repeat' (first | exact trivial | rfl | (refine nilEq ?_; first | rfl | (simp only [*]; done) | (simp [*]; done) | grind) | apply And.intro | ((first | refine intEq ?_ | refine boolEq ?_ | refine strEq ?_ | refine psEq ?_ | refine nilEq ?_ | refine arrEq ?_); (try simp only [Int.toNat_natCast, etas, elDef]); first | done | omega | grind | (simp only [*]; done) | (simp [*]; done)) | ((try simp only [Int.toNat_natCast, etas, elDef]); first | done | omega | grind | (simp only [*]; done) | (simp [*]; done)))), (by exact sgOk_of (by rfl))⟩
    · exact leafV hK (by unfold pathN; rw [List.take_of_length_le h] at hj; rw [← hj]; rfl)
  · dsimp only at hi hj
    have htk := fun h => pathN_take (p := p) (i := i) h
    have hl : (a :: r).length = i := by rw [hj]; simp; omega
    have hr2 : (a :: r).length + [wordN (p.getD i [])].length ≤ 1073741824 := by simp at hl ⊢; omega
    conv => whnf
    repeat' first
      | (refine Cnd.mk (fun h => ?_) (fun h => ?_) <;> (try simp [etas, elDef, -List.getD_eq_getElem?_getD] at h) <;> conv => whnf)
      | (refine Obl.mk (by first | omega | rfl | exact inK_byte _ | (simp only [inK, Int.toNat_natCast, etas, elDef] <;> first | omega | grind) | grind [inK]) ?_ <;> conv => whnf)
      | (refine OblG.mk (by conv => whnf
                            repeat (first | (refine Bx.mk ?_) | (intro h; (try simp [etas, elDef, -List.getD_eq_getElem?_getD] at h); conv => whnf))
                            first | omega | rfl | exact inK_byte _ | (simp only [inK, Int.toNat_natCast, etas, elDef] <;> first | omega | grind) | grind [inK]) ?_ <;> conv => whnf)
      | (refine Gd.mk (fun h => ?_) <;> (try simp [etas, elDef, -List.getD_eq_getElem?_getD] at h) <;> conv => whnf)
      | (refine And.intro ?_ ?_ <;> conv => whnf)
      | exact True.intro
      | (intro; conv => whnf)
    · exact ⟨(i + 1, a :: r ++ [wordN (p.getD i [])]), [(900, 18)], [], ⟨by simp only; omega, by simp only; rw [htk (by omega), ← hj]⟩, by simp only; omega, by (conv => whnf); (repeat' (first | exact trivial | rfl | (refine nilEq ?_; first | rfl | (simp only [*]; done) | (simp [*]; done) | grind) | apply And.intro | ((first | refine intEq ?_ | refine boolEq ?_ | refine strEq ?_ | refine psEq ?_ | refine nilEq ?_ | refine arrEq ?_); (try simp only [Int.toNat_natCast, etas, elDef]); first | done | omega | grind | (simp only [*]; done) | (simp [*]; done)))); (all_goals (conv => whnf)); (repeat' (first | exact trivial | rfl | (refine nilEq ?_; first | rfl | (simp only [*]; done) | (simp [*]; done) | grind) | apply And.intro | ((first | refine intEq ?_ | refine boolEq ?_ | refine strEq ?_ | refine psEq ?_ | refine nilEq ?_ | refine arrEq ?_); (try simp only [Int.toNat_natCast, etas, elDef]); first | done | omega | grind | (simp only [*]; done) | (simp [*]; done)) | ((try simp only [Int.toNat_natCast, etas, elDef]); first | done | omega | grind | (simp only [*]; done) | (simp [*]; done)))), (by exact sgOk_of (by rfl))⟩
    · exact leafV hK (by unfold pathN; rw [List.take_of_length_le h] at hj; rw [← hj]; rfl)
theorem s36 : (CtrOK Tryd.prog 36 (.pure F36) ∧ Callable Tryd.prog 36) := by
  refine pure_ok (E := E36) (mkE_nil tab_ok) mix (O := O36) (F := F36) Tryd.func36 rfl (by rfl) (by kernel_rfl) (fun args o v h => ?_) (fun args o v h => ?_) (fun args o v h hbd hp K hK => ?_)
  · unfold F36 at h; split at h <;> cases h; first | trivial | (simp [v36, Scalar, Scalar2, Scalar1, stC, ndC, itC, chC, nwC])
  · unfold F36 at h; split at h <;> cases h; exact Nat.le_of_ble_eq_true rfl
  · unfold F36 at h; split at h
    case h_2 => cases h
    cases h
    exact a36 _ (by exact hbd) (hp _ rfl) K hK
noncomputable def c14 (o : Opn) (K : AV → List AV → Prop) : Prop :=
    K (optN (opNodeM o)) []
noncomputable def C14 : List AV → (AV → List AV → Prop) → Prop
  | [.st [.int .i64 o_0, .ps .str o_1, .ps .str o_2, .int .i64 o_3_0, .int .i64 o_3_1, .str o_3_2, .ps .str o_3_3, .ps .node o_3_4]], K => c14 ⟨o_0, o_1, o_2, ⟨o_3_0, o_3_1, o_3_2, o_3_3, o_3_4⟩⟩ K
  | _, _ => False
noncomputable def E14 : Ctx := mkE tab [(26, .gen .ow C26), (27, .gen .ps C27), (35, .pure F35), (36, .pure F36), (37, .pure F37)]
noncomputable def O14 : Nat → List DI := ordL [(3, [.q 1, .q 2, .q 3, .q 4, .q 5, .q 6, .q 7, .q 8, .q 9, .q 10, .q 11, .q 12, .l 13 [], .l 14 [], .a 0, .q 15, .l 16 [], .q 17, .q 18, .l 19 [], .q 20])]
theorem a14 (o : Opn) (hb : BdAs [.st (opC o)]) (K : AV → List AV → Prop) (h : c14 o K) : abody E14 O14 .ps Tryd.f14 (Tryd.f14.body.getD .skip) [.st (opC o)] K := by
  simp only [BdAs, BdA, BdL, BdC, MX, ndC, shC, itC, stC, opC, chC, nwC, flC, rqC, rsC, enc, List.cons_append, List.nil_append, and_true, true_and] at hb
  unfold c14 at h
  have hK9 := h
  have hf := fun h => opOk_facts (o := o) h
  have hs := fun h => validM_sm (n := o.value) h
  conv => whnf
  repeat' first
    | (refine Cnd.mk (fun h => ?_) (fun h => ?_) <;> (try simp [etas, elDef, -List.getD_eq_getElem?_getD] at h) <;> conv => whnf)
    | (refine Obl.mk (by first | omega | rfl | exact inK_byte _ | (simp only [inK, Int.toNat_natCast, etas, elDef, m26, o36] <;> first | omega | grind) | grind [inK, m26, o36]) ?_ <;> conv => whnf)
    | (refine OblG.mk (by conv => whnf
                          repeat (first | (refine Bx.mk ?_) | (intro h; (try simp [etas, elDef, -List.getD_eq_getElem?_getD] at h); conv => whnf))
                          first | omega | rfl | exact inK_byte _ | (simp only [inK, Int.toNat_natCast, etas, elDef, m26, o36] <;> first | omega | grind) | grind [inK, m26, o36]) ?_ <;> conv => whnf)
    | (refine Gd.mk (fun h => ?_) <;> (try simp [etas, elDef, -List.getD_eq_getElem?_getD] at h) <;> conv => whnf)
    | (refine And.intro ?_ ?_ <;> conv => whnf)
    | exact True.intro
    | (intro; conv => whnf)
  · exact leafV hK9 (by unfold opNodeM; rw [h]; rfl)
  · have e : opNodeM o = if true && validM (opN o) then some (opN o) else none := by unfold opNodeM; rw [h]
    exact leafV hK9 (by rw [e]; simp only [etas]; rfl)
theorem s14 : (CtrOK Tryd.prog 14 (.gen .ps C14) ∧ Callable Tryd.prog 14) := by
  refine gen_ok (E := E14) (mkE_cons s26 (mkE_cons s27 (mkE_cons s35 (mkE_cons s36 (mkE_cons s37 (mkE_nil tab_ok)))))) mix (O := O14) (C := C14) (own := .ps) Tryd.func14 rfl (by rfl) (by kernel_rfl) (fun args K h hbd => ?_)
  unfold C14 at h; split at h
  case h_2 => exact h.elim
  exact ⟨Nat.le_of_ble_eq_true rfl, a14 ⟨_, _, _, ⟨_, _, _, _, _⟩⟩ (by exact hbd) _ h⟩
noncomputable def v64 (s : Bs) : AV := .st (ndC (wordN s))
noncomputable def o64 (s : Bs) : Prop := True
noncomputable def F64 : List AV → QR
  | [.str s] => some (none, v64 s)
  | _ => none
noncomputable def E64 : Ctx := mkE tab []
noncomputable def O64 : Nat → List DI := ordL []
theorem a64 (s : Bs) (hb : BdAs [.str s]) (ho : o64 s) (K : AV → List AV → Prop) (hK : K (v64 s) []) : abody E64 O64 .ps Tryd.f64 (Tryd.f64.body.getD .skip) [.str s] K := by
  simp only [BdAs, BdA, BdL, BdC, MX, ndC, shC, itC, stC, opC, chC, nwC, flC, rqC, rsC, enc, List.cons_append, List.nil_append, and_true, true_and] at hb
  unfold v64 at hK
  conv => whnf
  repeat' first
    | (refine Cnd.mk (fun h => ?_) (fun h => ?_) <;> (try simp [etas, elDef, -List.getD_eq_getElem?_getD] at h) <;> conv => whnf)
    | (refine Obl.mk (by first | omega | rfl | exact inK_byte _ | (simp only [inK, Int.toNat_natCast, etas, elDef] <;> first | omega | grind) | grind [inK]) ?_ <;> conv => whnf)
    | (refine OblG.mk (by conv => whnf
                          repeat (first | (refine Bx.mk ?_) | (intro h; (try simp [etas, elDef, -List.getD_eq_getElem?_getD] at h); conv => whnf))
                          first | omega | rfl | exact inK_byte _ | (simp only [inK, Int.toNat_natCast, etas, elDef] <;> first | omega | grind) | grind [inK]) ?_ <;> conv => whnf)
    | (refine Gd.mk (fun h => ?_) <;> (try simp [etas, elDef, -List.getD_eq_getElem?_getD] at h) <;> conv => whnf)
    | (refine And.intro ?_ ?_ <;> conv => whnf)
    | exact True.intro
    | (intro; conv => whnf)
  exact hK
theorem s64 : (CtrOK Tryd.prog 64 (.pure F64) ∧ Callable Tryd.prog 64) := by
  refine pure_ok (E := E64) (mkE_nil tab_ok) mix (O := O64) (F := F64) Tryd.func64 rfl (by rfl) (by kernel_rfl) (fun args o v h => ?_) (fun args o v h => ?_) (fun args o v h hbd hp K hK => ?_)
  · unfold F64 at h; split at h <;> cases h; first | trivial | (simp [v64, Scalar, Scalar2, Scalar1, stC, ndC, itC, chC, nwC])
  · unfold F64 at h; split at h <;> cases h; exact Nat.le_of_ble_eq_true rfl
  · unfold F64 at h; split at h
    case h_2 => cases h
    cases h
    exact a64 _ (by exact hbd) trivial K hK
noncomputable def v65  : AV := .ps .str [[], [97, 100, 100], [114, 101, 109, 111, 118, 101], [114, 101, 112, 108, 97, 99, 101], [109, 111, 118, 101], [99, 111, 112, 121], [116, 101, 115, 116]]
noncomputable def o65  : Prop := True
noncomputable def F65 : List AV → QR
  | [] => some (none, v65 )
  | _ => none
noncomputable def E65 : Ctx := mkE tab []
noncomputable def O65 : Nat → List DI := ordL []
theorem a65  (hb : BdAs []) (ho : o65 ) (K : AV → List AV → Prop) (hK : K (v65 ) []) : abody E65 O65 .ps Tryd.f65 (Tryd.f65.body.getD .skip) [] K := by
  simp only [BdAs, BdA, BdL, BdC, MX, ndC, shC, itC, stC, opC, chC, nwC, flC, rqC, rsC, enc, List.cons_append, List.nil_append, and_true, true_and] at hb
  unfold v65 at hK
  conv => whnf
  repeat' first
    | (refine Cnd.mk (fun h => ?_) (fun h => ?_) <;> (try simp [etas, elDef, -List.getD_eq_getElem?_getD] at h) <;> conv => whnf)
    | (refine Obl.mk (by first | omega | rfl | exact inK_byte _ | (simp only [inK, Int.toNat_natCast, etas, elDef] <;> first | omega | grind) | grind [inK]) ?_ <;> conv => whnf)
    | (refine OblG.mk (by conv => whnf
                          repeat (first | (refine Bx.mk ?_) | (intro h; (try simp [etas, elDef, -List.getD_eq_getElem?_getD] at h); conv => whnf))
                          first | omega | rfl | exact inK_byte _ | (simp only [inK, Int.toNat_natCast, etas, elDef] <;> first | omega | grind) | grind [inK]) ?_ <;> conv => whnf)
    | (refine Gd.mk (fun h => ?_) <;> (try simp [etas, elDef, -List.getD_eq_getElem?_getD] at h) <;> conv => whnf)
    | (refine And.intro ?_ ?_ <;> conv => whnf)
    | exact True.intro
    | (intro; conv => whnf)
  exact hK
theorem s65 : (CtrOK Tryd.prog 65 (.pure F65) ∧ Callable Tryd.prog 65) := by
  refine pure_ok (E := E65) (mkE_nil tab_ok) mix (O := O65) (F := F65) Tryd.func65 rfl (by rfl) (by kernel_rfl) (fun args o v h => ?_) (fun args o v h => ?_) (fun args o v h hbd hp K hK => ?_)
  · unfold F65 at h; split at h <;> cases h; first | trivial | (simp [v65, Scalar, Scalar2, Scalar1, stC, ndC, itC, chC, nwC])
  · unfold F65 at h; split at h <;> cases h; exact Nat.le_of_ble_eq_true rfl
  · unfold F65 at h; split at h
    case h_2 => cases h
    cases h
    exact a65  (by exact hbd) trivial K hK
noncomputable def v63 (p : List Bs) : AV := .st (ndC (pathN p))
noncomputable def o63 (p : List Bs) : Prop := p.length ≤ 1000
noncomputable def F63 : List AV → QR
  | [.ps .str p] => some (some (o63 p), v63 p)
  | _ => none
noncomputable def E63 : Ctx := mkE tab [(64, .pure F64)]
noncomputable def O63 : Nat → List DI := ordL []
theorem a63 (p : List Bs) (hb : BdAs [.ps .str p]) (ho : o63 p) (K : AV → List AV → Prop) (hK : K (v63 p) []) : abody E63 O63 .ps Tryd.f63 (Tryd.f63.body.getD .skip) [.ps .str p] K := by
  simp only [BdAs, BdA, BdL, BdC, MX, ndC, shC, itC, stC, opC, chC, nwC, flC, rqC, rsC, enc, List.cons_append, List.nil_append, and_true, true_and] at hb
  unfold o63 at ho
  unfold v63 at hK
  conv => whnf
  repeat' first
    | (refine Cnd.mk (fun h => ?_) (fun h => ?_) <;> (try simp [etas, elDef, -List.getD_eq_getElem?_getD] at h) <;> conv => whnf)
    | (refine Obl.mk (by first | omega | rfl | exact inK_byte _ | (simp only [inK, Int.toNat_natCast, etas, elDef] <;> first | omega | grind) | grind [inK]) ?_ <;> conv => whnf)
    | (refine OblG.mk (by conv => whnf
                          repeat (first | (refine Bx.mk ?_) | (intro h; (try simp [etas, elDef, -List.getD_eq_getElem?_getD] at h); conv => whnf))
                          first | omega | rfl | exact inK_byte _ | (simp only [inK, Int.toNat_natCast, etas, elDef] <;> first | omega | grind) | grind [inK]) ?_ <;> conv => whnf)
    | (refine Gd.mk (fun h => ?_) <;> (try simp [etas, elDef, -List.getD_eq_getElem?_getD] at h) <;> conv => whnf)
    | (refine And.intro ?_ ?_ <;> conv => whnf)
    | exact True.intro
    | (intro; conv => whnf)
  refine aloop_intro (Nat × List Nd) (fun ⟨i, l⟩ => i ≤ p.length ∧ l = (p.take i).map wordN) (fun ⟨i, l⟩ => p.length - i) (fun ⟨i, l⟩ => [(4, .int .i64 i), (3, .ls 900)]) (fun ⟨i, l⟩ => [(900, .arr .node l)]) [2] (0, []) [(900, 5)] [] ?_ ?_ (by exact sgOk_of (by rfl)) ?_
  · first | (simp; done) | (simp; assumption) | (simp only; grind)
  · (conv => whnf); (repeat' (first | exact trivial | rfl | (refine nilEq ?_; first | rfl | (simp only [*]; done) | (simp [*]; done) | grind) | apply And.intro | ((first | refine intEq ?_ | refine boolEq ?_ | refine strEq ?_ | refine psEq ?_ | refine nilEq ?_ | refine arrEq ?_); (try simp only [Int.toNat_natCast, etas, elDef]); first | done | omega | grind | (simp only [*]; done) | (simp [*]; done)))); (all_goals (conv => whnf)); (repeat' (first | exact trivial | rfl | (refine nilEq ?_; first | rfl | (simp only [*]; done) | (simp [*]; done) | grind) | apply And.intro | ((first | refine intEq ?_ | refine boolEq ?_ | refine strEq ?_ | refine psEq ?_ | refine nilEq ?_ | refine arrEq ?_); (try simp only [Int.toNat_natCast, etas, elDef]); first | done | omega | grind | (simp only [*]; done) | (simp [*]; done)) | ((try simp only [Int.toNat_natCast, etas, elDef]); first | done | omega | grind | (simp only [*]; done) | (simp [*]; done))))
  rintro ⟨i, l⟩ hinv
  dsimp only at hinv
  conv => whnf
  obtain ⟨hi, hj⟩ := hinv
  have htk := fun h => pathN_take (p := p) (i := i) h
  have hl : l.length = i := by rw [hj]; simp; omega
  have hr2 : l.length + [wordN (p.getD i [])].length ≤ 1073741824 := by simp; omega
  repeat' first
    | (refine Cnd.mk (fun h => ?_) (fun h => ?_) <;> (try simp [etas, elDef, -List.getD_eq_getElem?_getD] at h) <;> conv => whnf)
    | (refine Obl.mk (by first | omega | rfl | exact inK_byte _ | (simp only [inK, Int.toNat_natCast, etas, elDef] <;> first | omega | grind) | grind [inK]) ?_ <;> conv => whnf)
    | (refine OblG.mk (by conv => whnf
                          repeat (first | (refine Bx.mk ?_) | (intro h; (try simp [etas, elDef, -List.getD_eq_getElem?_getD] at h); conv => whnf))
                          first | omega | rfl | exact inK_byte _ | (simp only [inK, Int.toNat_natCast, etas, elDef] <;> first | omega | grind) | grind [inK]) ?_ <;> conv => whnf)
    | (refine Gd.mk (fun h => ?_) <;> (try simp [etas, elDef, -List.getD_eq_getElem?_getD] at h) <;> conv => whnf)
    | (refine And.intro ?_ ?_ <;> conv => whnf)
    | exact True.intro
    | (intro; conv => whnf)
  · exact ⟨(i + 1, l ++ [wordN (p.getD i [])]), [(900, 19)], [], ⟨by omega, by rw [htk (by omega), ← hj]⟩, by show p.length - (i + 1) < p.length - i; omega, by (conv => whnf); (repeat' (first | exact trivial | rfl | (refine nilEq ?_; first | rfl | (simp only [*]; done) | (simp [*]; done) | grind) | apply And.intro | ((first | refine intEq ?_ | refine boolEq ?_ | refine strEq ?_ | refine psEq ?_ | refine nilEq ?_ | refine arrEq ?_); (try simp only [Int.toNat_natCast, etas, elDef]); first | done | omega | grind | (simp only [*]; done) | (simp [*]; done)))); (all_goals (conv => whnf)); (repeat' (first | exact trivial | rfl | (refine nilEq ?_; first | rfl | (simp only [*]; done) | (simp [*]; done) | grind) | apply And.intro | ((first | refine intEq ?_ | refine boolEq ?_ | refine strEq ?_ | refine psEq ?_ | refine nilEq ?_ | refine arrEq ?_); (try simp only [Int.toNat_natCast, etas, elDef]); first | done | omega | grind | (simp only [*]; done) | (simp [*]; done)) | ((try simp only [Int.toNat_natCast, etas, elDef]); first | done | omega | grind | (simp only [*]; done) | (simp [*]; done)))), (by exact sgOk_of (by rfl))⟩
  · exact leafV hK (by unfold pathN; rw [List.take_of_length_le h] at hj; rw [← hj]; rfl)
theorem s63 : (CtrOK Tryd.prog 63 (.pure F63) ∧ Callable Tryd.prog 63) := by
  refine pure_ok (E := E63) (mkE_cons s64 (mkE_nil tab_ok)) mix (O := O63) (F := F63) Tryd.func63 rfl (by rfl) (by kernel_rfl) (fun args o v h => ?_) (fun args o v h => ?_) (fun args o v h hbd hp K hK => ?_)
  · unfold F63 at h; split at h <;> cases h; first | trivial | (simp [v63, Scalar, Scalar2, Scalar1, stC, ndC, itC, chC, nwC])
  · unfold F63 at h; split at h <;> cases h; exact Nat.le_of_ble_eq_true rfl
  · unfold F63 at h; split at h
    case h_2 => cases h
    cases h
    exact a63 _ (by exact hbd) (hp _ rfl) K hK
noncomputable def c40 (o : Opn) (K : AV → List AV → Prop) : Prop :=
    Obl (opOk o = true) (K (.st (ndC (opN o))) [])
noncomputable def C40 : List AV → (AV → List AV → Prop) → Prop
  | [.st [.int .i64 o_0, .ps .str o_1, .ps .str o_2, .int .i64 o_3_0, .int .i64 o_3_1, .str o_3_2, .ps .str o_3_3, .ps .node o_3_4]], K => c40 ⟨o_0, o_1, o_2, ⟨o_3_0, o_3_1, o_3_2, o_3_3, o_3_4⟩⟩ K
  | _, _ => False
noncomputable def E40 : Ctx := mkE tab [(45, .gen .ps C45), (63, .pure F63), (64, .pure F64), (65, .pure F65)]
noncomputable def O40 : Nat → List DI := ordL [(1, [.q 1, .q 2, .q 3, .q 4, .q 5, .q 6, .q 7, .q 8, .q 9, .q 10, .q 11, .q 12, .q 13, .q 14, .l 15 [], .l 16 [], .a 0, .q 17, .l 18 []])]
theorem a40 (o : Opn) (hb : BdAs [.st (opC o)]) (K : AV → List AV → Prop) (h : c40 o K) : abody E40 O40 .ps Tryd.f40 (Tryd.f40.body.getD .skip) [.st (opC o)] K := by
  simp only [BdAs, BdA, BdL, BdC, MX, ndC, shC, itC, stC, opC, chC, nwC, flC, rqC, rsC, enc, List.cons_append, List.nil_append, and_true, true_and] at hb
  unfold c40 at h
  obtain ⟨ho, hK⟩ := h
  obtain ⟨h1, h2, h3, h4, h5, h6⟩ := opOk_facts ho
  have hs := validM_sm h4
  conv => whnf
  repeat' first
    | (refine Cnd.mk (fun h => ?_) (fun h => ?_) <;> (try simp [etas, elDef, -List.getD_eq_getElem?_getD] at h) <;> conv => whnf)
    | (refine Obl.mk (by first | omega | rfl | exact inK_byte _ | (simp only [inK, Int.toNat_natCast, etas, elDef, m45, o63] <;> first | omega | grind) | grind [inK, m45, o63]) ?_ <;> conv => whnf)
    | (refine OblG.mk (by conv => whnf
                          repeat (first | (refine Bx.mk ?_) | (intro h; (try simp [etas, elDef, -List.getD_eq_getElem?_getD] at h); conv => whnf))
                          first | omega | rfl | exact inK_byte _ | (simp only [inK, Int.toNat_natCast, etas, elDef, m45, o63] <;> first | omega | grind) | grind [inK, m45, o63]) ?_ <;> conv => whnf)
    | (refine Gd.mk (fun h => ?_) <;> (try simp [etas, elDef, -List.getD_eq_getElem?_getD] at h) <;> conv => whnf)
    | (refine And.intro ?_ ?_ <;> conv => whnf)
    | exact True.intro
    | (intro; conv => whnf)
  refine Obl.mk ⟨by omega, by simp; omega⟩ ?_
  conv => whnf
  repeat' first
    | (refine Cnd.mk (fun h => ?_) (fun h => ?_) <;> (try simp [etas, elDef, -List.getD_eq_getElem?_getD] at h) <;> conv => whnf)
    | (refine Obl.mk (by first | omega | rfl | exact inK_byte _ | (simp only [inK, Int.toNat_natCast, etas, elDef, m45, o63] <;> first | omega | grind) | grind [inK, m45, o63]) ?_ <;> conv => whnf)
    | (refine OblG.mk (by conv => whnf
                          repeat (first | (refine Bx.mk ?_) | (intro h; (try simp [etas, elDef, -List.getD_eq_getElem?_getD] at h); conv => whnf))
                          first | omega | rfl | exact inK_byte _ | (simp only [inK, Int.toNat_natCast, etas, elDef, m45, o63] <;> first | omega | grind) | grind [inK, m45, o63]) ?_ <;> conv => whnf)
    | (refine Gd.mk (fun h => ?_) <;> (try simp [etas, elDef, -List.getD_eq_getElem?_getD] at h) <;> conv => whnf)
    | (refine And.intro ?_ ?_ <;> conv => whnf)
    | exact True.intro
    | (intro; conv => whnf)
  exact leafV hK (by simp only [etas, elDef]; rw [words_at h1.1 h1.2]; rfl)
theorem s40 : (CtrOK Tryd.prog 40 (.gen .ps C40) ∧ Callable Tryd.prog 40) := by
  refine gen_ok (E := E40) (mkE_cons s45 (mkE_cons s63 (mkE_cons s64 (mkE_cons s65 (mkE_nil tab_ok))))) mix (O := O40) (C := C40) (own := .ps) Tryd.func40 rfl (by rfl) (by kernel_rfl) (fun args K h hbd => ?_)
  unfold C40 at h; split at h
  case h_2 => exact h.elim
  exact ⟨Nat.le_of_ble_eq_true rfl, a40 ⟨_, _, _, ⟨_, _, _, _, _⟩⟩ (by exact hbd) _ h⟩
noncomputable def c15 (o : Opn) (K : AV → List AV → Prop) : Prop :=
    K (optN (opNodeM o)) []
noncomputable def C15 : List AV → (AV → List AV → Prop) → Prop
  | [.st [.int .i64 o_0, .ps .str o_1, .ps .str o_2, .int .i64 o_3_0, .int .i64 o_3_1, .str o_3_2, .ps .str o_3_3, .ps .node o_3_4]], K => c15 ⟨o_0, o_1, o_2, ⟨o_3_0, o_3_1, o_3_2, o_3_3, o_3_4⟩⟩ K
  | _, _ => False
noncomputable def E15 : Ctx := mkE tab [(38, .pure F38), (39, .gen .ps C39), (40, .gen .ps C40)]
noncomputable def O15 : Nat → List DI := ordL []
theorem a15 (o : Opn) (hb : BdAs [.st (opC o)]) (K : AV → List AV → Prop) (h : c15 o K) : abody E15 O15 .ps Tryd.f15 (Tryd.f15.body.getD .skip) [.st (opC o)] K := by
  simp only [BdAs, BdA, BdL, BdC, MX, ndC, shC, itC, stC, opC, chC, nwC, flC, rqC, rsC, enc, List.cons_append, List.nil_append, and_true, true_and] at hb
  unfold c15 at h
  have hK9 := h
  conv => whnf
  repeat' first
    | (refine Cnd.mk (fun h => ?_) (fun h => ?_) <;> (try simp [etas, elDef, -List.getD_eq_getElem?_getD] at h) <;> conv => whnf)
    | (refine Obl.mk (by first | omega | rfl | exact inK_byte _ | (simp only [inK, Int.toNat_natCast, etas, elDef] <;> first | omega | grind) | grind [inK]) ?_ <;> conv => whnf)
    | (refine OblG.mk (by conv => whnf
                          repeat (first | (refine Bx.mk ?_) | (intro h; (try simp [etas, elDef, -List.getD_eq_getElem?_getD] at h); conv => whnf))
                          first | omega | rfl | exact inK_byte _ | (simp only [inK, Int.toNat_natCast, etas, elDef] <;> first | omega | grind) | grind [inK]) ?_ <;> conv => whnf)
    | (refine Gd.mk (fun h => ?_) <;> (try simp [etas, elDef, -List.getD_eq_getElem?_getD] at h) <;> conv => whnf)
    | (refine And.intro ?_ ?_ <;> conv => whnf)
    | exact True.intro
    | (intro; conv => whnf)
  · exact leafV hK9 (by unfold opNodeM; rw [h]; rfl)
  · have e : opNodeM o = if true && validM (opN o) then some (opN o) else none := by unfold opNodeM; rw [h]
    exact leafV hK9 (by rw [e]; simp only [etas]; rfl)
theorem s15 : (CtrOK Tryd.prog 15 (.gen .ps C15) ∧ Callable Tryd.prog 15) := by
  refine gen_ok (E := E15) (mkE_cons s38 (mkE_cons s39 (mkE_cons s40 (mkE_nil tab_ok)))) mix (O := O15) (C := C15) (own := .ps) Tryd.func15 rfl (by rfl) (by kernel_rfl) (fun args K h hbd => ?_)
  unfold C15 at h; split at h
  case h_2 => exact h.elim
  exact ⟨Nat.le_of_ble_eq_true rfl, a15 ⟨_, _, _, ⟨_, _, _, _, _⟩⟩ (by exact hbd) _ h⟩
noncomputable def c34v (code : List Int) (p : Int) (K : AV → List AV → Prop) : Prop :=
    Obl ((0 ≤ p ∧ p ≤ 10000000) ∧ byOk code) (∀ (n1 n2 : Int) (n3 : Bs) (n4 : List Bs) (n5 : List Nd) (p' : Int), okN ⟨n1, n2, n3, n4, n5⟩ → p ≤ p' ∧ p' ≤ p + 2000 → K (.st [.int .i64 n1, .int .i64 n2, .str n3, .own .str n4, .own .node n5]) [.ref [.ps .u8 code, .int .i64 p']])
noncomputable def C34v : List AV → (AV → List AV → Prop) → Prop
  | [.ref [.ps .u8 code, .int .i64 p]], K => c34v code p K
  | _, _ => False
noncomputable def E34v : Ctx := mkE tab [(23, .pure F23), (43, .gen .ps C43), (59, .gen .ow C59), (60, .gen .ow C60)]
noncomputable def O34v : Nat → List DI := ordL []
theorem a34v (code : List Int) (p : Int) (hb : BdAs [.ref [.ps .u8 code, .int .i64 p]]) (K : AV → List AV → Prop) (h : c34v code p K) : abody E34v O34v .ow Tryd.f34 (Tryd.f34.body.getD .skip) [.ref [.ps .u8 code, .int .i64 p]] K := by
  simp only [BdAs, BdA, BdL, BdC, MX, ndC, shC, itC, stC, opC, chC, nwC, flC, rqC, rsC, enc, List.cons_append, List.nil_append, and_true, true_and] at hb
  unfold c34v at h
  obtain ⟨⟨hp, ho⟩, hK⟩ := h
  have hc := (cost_facts 3).2.2
  have h0 : okN ⟨0, 0, [], [], []⟩ := okN_default
  conv => whnf
  repeat' first
    | (refine Cnd.mk (fun h => ?_) (fun h => ?_) <;> (try simp [etas, elDef, -List.getD_eq_getElem?_getD] at h) <;> conv => whnf)
    | (refine Obl.mk (by first | omega | rfl | exact inK_byte _ | (simp only [inK, Int.toNat_natCast, etas, elDef, m59, m60] <;> first | omega | grind) | grind [inK, m59, m60]) ?_ <;> conv => whnf)
    | (refine OblG.mk (by conv => whnf
                          repeat (first | (refine Bx.mk ?_) | (intro h; (try simp [etas, elDef, -List.getD_eq_getElem?_getD] at h); conv => whnf))
                          first | omega | rfl | exact inK_byte _ | (simp only [inK, Int.toNat_natCast, etas, elDef, m59, m60] <;> first | omega | grind) | grind [inK, m59, m60]) ?_ <;> conv => whnf)
    | (refine Gd.mk (fun h => ?_) <;> (try simp [etas, elDef, -List.getD_eq_getElem?_getD] at h) <;> conv => whnf)
    | (refine And.intro ?_ ?_ <;> conv => whnf)
    | exact True.intro
    | (intro; conv => whnf)
  · exact hK _ _ _ _ _ _ h0 (by omega)
  · exact hK _ _ _ _ _ _ (validM_ok h) (by omega)
  · exact hK _ _ _ _ _ _ h0 (by omega)
  · exact hK _ _ _ _ _ _ (validM_ok h) (by omega)
theorem s34v : (CtrOK Tryd.prog 34 (.gen .ow C34v) ∧ Callable Tryd.prog 34) := by
  refine gen_ok (E := E34v) (mkE_cons s23 (mkE_cons s43 (mkE_cons s59 (mkE_cons s60 (mkE_nil tab_ok))))) mix (O := O34v) (C := C34v) (own := .ow) Tryd.func34 rfl (by rfl) (by kernel_rfl) (fun args K h hbd => ?_)
  unfold C34v at h; split at h
  case h_2 => exact h.elim
  exact ⟨Nat.le_of_ble_eq_true rfl, a34v _ _ (by exact hbd) _ h⟩
set_option maxHeartbeats 4000000
noncomputable def c57 (code : List Int) (p : Int) (n : Nd) (K : AV → List AV → Prop) : Prop :=
    Obl ((0 ≤ p ∧ p ≤ 10000000) ∧ byOk code ∧ okN n) (∀ (o : Opn) (p' : Int), p ≤ p' ∧ p' ≤ p + 5000 → K (.st (opC o)) [.ref [.ps .u8 code, .int .i64 p']])
noncomputable def C57 : List AV → (AV → List AV → Prop) → Prop
  | [.ref [.ps .u8 code, .int .i64 p], .st [.int .i64 n_0, .int .i64 n_1, .str n_2, .ps .str n_3, .ps .node n_4]], K => c57 code p ⟨n_0, n_1, n_2, n_3, n_4⟩ K
  | _, _ => False
noncomputable def E57 : Ctx := mkE tab [(43, .gen .ps C43), (59, .gen .ow C59), (76, .gen .ps C76), (77, .gen .ps C77), (78, .gen .ps C78)]
noncomputable def O57 : Nat → List DI := ordL [(1, [.q 0, .q 3, .q 4, .q 7, .l 1 [4], .q 2, .l 5 [], .a 6, .q 8, .a 9, .l 10 []])]
theorem a57 (code : List Int) (p : Int) (n : Nd) (hb : BdAs [.ref [.ps .u8 code, .int .i64 p], .st (ndC n)]) (K : AV → List AV → Prop) (h : c57 code p n K) : abody E57 O57 .ps Tryd.f57 (Tryd.f57.body.getD .skip) [.ref [.ps .u8 code, .int .i64 p], .st (ndC n)] K := by
  simp only [BdAs, BdA, BdL, BdC, MX, ndC, shC, itC, stC, opC, chC, nwC, flC, rqC, rsC, enc, List.cons_append, List.nil_append, and_true, true_and] at hb
  unfold c57 at h
  obtain ⟨⟨hp, ho, hn⟩, hK⟩ := h
  have hc := (cost_facts 2).2.2
  conv => whnf
  repeat' first
    | (refine Cnd.mk (fun h => ?_) (fun h => ?_) <;> (try simp [etas, elDef, -List.getD_eq_getElem?_getD] at h) <;> conv => whnf)
    | (refine Obl.mk (by first | omega | rfl | exact inK_byte _ | (simp only [inK, Int.toNat_natCast, etas, elDef, m59] <;> first | omega | grind) | grind [inK, m59]) ?_ <;> conv => whnf)
    | (refine OblG.mk (by conv => whnf
                          repeat (first | (refine Bx.mk ?_) | (intro h; (try simp [etas, elDef, -List.getD_eq_getElem?_getD] at h); conv => whnf))
                          first | omega | rfl | exact inK_byte _ | (simp only [inK, Int.toNat_natCast, etas, elDef, m59] <;> first | omega | grind) | grind [inK, m59]) ?_ <;> conv => whnf)
    | (refine Gd.mk (fun h => ?_) <;> (try simp [etas, elDef, -List.getD_eq_getElem?_getD] at h) <;> conv => whnf)
    | (refine And.intro ?_ ?_ <;> conv => whnf)
    | exact True.intro
    | (intro; conv => whnf)
  all_goals exact hK ⟨_, _, _, ⟨_, _, _, _, _⟩⟩ _ (by omega)
theorem s57 : (CtrOK Tryd.prog 57 (.gen .ps C57) ∧ Callable Tryd.prog 57) := by
  refine gen_ok (E := E57) (mkE_cons s43 (mkE_cons s59 (mkE_cons s76 (mkE_cons s77 (mkE_cons s78 (mkE_nil tab_ok)))))) mix (O := O57) (C := C57) (own := .ps) Tryd.func57 rfl (by rfl) (by kernel_rfl) (fun args K h hbd => ?_)
  unfold C57 at h; split at h
  case h_2 => exact h.elim
  exact ⟨Nat.le_of_ble_eq_true rfl, a57 _ _ ⟨_, _, _, _, _⟩ (by exact hbd) _ h⟩
noncomputable def c33 (code : List Int) (p : Int) (n : Nd) (K : AV → List AV → Prop) : Prop :=
    Obl ((0 ≤ p ∧ p ≤ 5000000) ∧ byOk code ∧ okN n) (∀ (o : Opn) (p' : Int), K (.st (opC o)) [.ref [.ps .u8 code, .int .i64 p']])
noncomputable def C33 : List AV → (AV → List AV → Prop) → Prop
  | [.ref [.ps .u8 code, .int .i64 p], .st [.int .i64 n_0, .int .i64 n_1, .str n_2, .ps .str n_3, .ps .node n_4]], K => c33 code p ⟨n_0, n_1, n_2, n_3, n_4⟩ K
  | _, _ => False
noncomputable def E33 : Ctx := mkE tab [(19, .gen .ps C19), (43, .gen .ps C43), (44, .gen .ps C44), (57, .gen .ps C57), (58, .gen .ps C58)]
noncomputable def O33 : Nat → List DI := ordL []
theorem a33 (code : List Int) (p : Int) (n : Nd) (hb : BdAs [.ref [.ps .u8 code, .int .i64 p], .st (ndC n)]) (K : AV → List AV → Prop) (h : c33 code p n K) : abody E33 O33 .ps Tryd.f33 (Tryd.f33.body.getD .skip) [.ref [.ps .u8 code, .int .i64 p], .st (ndC n)] K := by
  simp only [BdAs, BdA, BdL, BdC, MX, ndC, shC, itC, stC, opC, chC, nwC, flC, rqC, rsC, enc, List.cons_append, List.nil_append, and_true, true_and] at hb
  unfold c33 at h
  obtain ⟨⟨hp, ho, hn⟩, hK⟩ := h
  conv => whnf
  repeat' first
    | (refine Cnd.mk (fun h => ?_) (fun h => ?_) <;> (try simp [etas, elDef, -List.getD_eq_getElem?_getD] at h) <;> conv => whnf)
    | (refine Obl.mk (by first | omega | rfl | exact inK_byte _ | (simp only [inK, Int.toNat_natCast, etas, elDef] <;> first | omega | grind) | grind [inK]) ?_ <;> conv => whnf)
    | (refine OblG.mk (by conv => whnf
                          repeat (first | (refine Bx.mk ?_) | (intro h; (try simp [etas, elDef, -List.getD_eq_getElem?_getD] at h); conv => whnf))
                          first | omega | rfl | exact inK_byte _ | (simp only [inK, Int.toNat_natCast, etas, elDef] <;> first | omega | grind) | grind [inK]) ?_ <;> conv => whnf)
    | (refine Gd.mk (fun h => ?_) <;> (try simp [etas, elDef, -List.getD_eq_getElem?_getD] at h) <;> conv => whnf)
    | (refine And.intro ?_ ?_ <;> conv => whnf)
    | exact True.intro
    | (intro; conv => whnf)
  all_goals exact hK ⟨_, _, _, ⟨_, _, _, _, _⟩⟩ _
theorem s33 : (CtrOK Tryd.prog 33 (.gen .ps C33) ∧ Callable Tryd.prog 33) := by
  refine gen_ok (E := E33) (mkE_cons s19 (mkE_cons s43 (mkE_cons s44 (mkE_cons s57 (mkE_cons s58 (mkE_nil tab_ok)))))) mix (O := O33) (C := C33) (own := .ps) Tryd.func33 rfl (by rfl) (by kernel_rfl) (fun args K h hbd => ?_)
  unfold C33 at h; split at h
  case h_2 => exact h.elim
  exact ⟨Nat.le_of_ble_eq_true rfl, a33 _ _ ⟨_, _, _, _, _⟩ (by exact hbd) _ h⟩
noncomputable def c13 (code : List Int) (K : AV → List AV → Prop) : Prop :=
    Obl (byOk code) (∀ (o : Opn), K (.st (opC o)) [])
noncomputable def C13 : List AV → (AV → List AV → Prop) → Prop
  | [.ps .u8 code], K => c13 code K
  | _, _ => False
noncomputable def E13 : Ctx := mkE tab [(20, .gen .ow C20), (33, .gen .ps C33), (34, .gen .ow C34v)]
noncomputable def O13 : Nat → List DI := ordL []
theorem a13 (code : List Int) (hb : BdAs [.ps .u8 code]) (K : AV → List AV → Prop) (h : c13 code K) : abody E13 O13 .ps Tryd.f13 (Tryd.f13.body.getD .skip) [.ps .u8 code] K := by
  simp only [BdAs, BdA, BdL, BdC, MX, ndC, shC, itC, stC, opC, chC, nwC, flC, rqC, rsC, enc, List.cons_append, List.nil_append, and_true, true_and] at hb
  unfold c13 at h
  obtain ⟨ho, hK⟩ := h
  conv => whnf
  repeat' first
    | (refine Cnd.mk (fun h => ?_) (fun h => ?_) <;> (try simp [etas, elDef, -List.getD_eq_getElem?_getD] at h) <;> conv => whnf)
    | (refine Obl.mk (by first | omega | rfl | exact inK_byte _ | (simp only [inK, Int.toNat_natCast, etas, elDef] <;> first | omega | grind) | grind [inK]) ?_ <;> conv => whnf)
    | (refine OblG.mk (by conv => whnf
                          repeat (first | (refine Bx.mk ?_) | (intro h; (try simp [etas, elDef, -List.getD_eq_getElem?_getD] at h); conv => whnf))
                          first | omega | rfl | exact inK_byte _ | (simp only [inK, Int.toNat_natCast, etas, elDef] <;> first | omega | grind) | grind [inK]) ?_ <;> conv => whnf)
    | (refine Gd.mk (fun h => ?_) <;> (try simp [etas, elDef, -List.getD_eq_getElem?_getD] at h) <;> conv => whnf)
    | (refine And.intro ?_ ?_ <;> conv => whnf)
    | exact True.intro
    | (intro; conv => whnf)
  all_goals exact hK ⟨_, _, _, ⟨_, _, _, _, _⟩⟩
theorem s13 : (CtrOK Tryd.prog 13 (.gen .ps C13) ∧ Callable Tryd.prog 13) := by
  refine gen_ok (E := E13) (mkE_cons s20 (mkE_cons s33 (mkE_cons s34v (mkE_nil tab_ok)))) mix (O := O13) (C := C13) (own := .ps) Tryd.func13 rfl (by rfl) (by kernel_rfl) (fun args K h hbd => ?_)
  unfold C13 at h; split at h
  case h_2 => exact h.elim
  exact ⟨Nat.le_of_ble_eq_true rfl, a13 _ (by exact hbd) _ h⟩
end Go.Rs

