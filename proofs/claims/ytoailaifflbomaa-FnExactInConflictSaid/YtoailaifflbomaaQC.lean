import Derived.Test.YtoailaifflbomaaQB
import Derived.Test.YtoailaifflbomaaQA
import Derived.Test.YtoailaifflbomaaEW
import Derived.Test.YtoailaifflbomaaCZ
import Derived.Test.YtoailaifflbomaaMJ
set_option linter.all false
set_option linter.unusedSimpArgs false
set_option linter.unusedVariables false
namespace Go.Rs
open Go.Proofs Go.RowKit
set_option maxRecDepth 100000
set_option maxHeartbeats 4000000
def loT (f : Bool) (l : List It) : List (Nat × LC) := match f with
  | true => [(9, .box [.int .i64 4, .int .i64 0, .str [], .nils .str, .nils .node])]
  | false => [(9, .box [.int .i64 4, .int .i64 0, .str [], .ls 900, .ls 901]), (900, .arr .str (l.map (·.name))), (901, .tree .node (l.map (·.node)))]
noncomputable def c121 (n : Nd) (nm : Bs) (K : AV → List AV → Prop) : Prop :=
    Obl (okN n ∧ n.kind = 4) ((∀ (x : It), lookI (baseI n) nm = some x → K (.tup [.st (ndC x.node), .bool true]) []) ∧ (lookI (baseI n) nm = none → K (.tup [.st [.int .i64 0, .int .i64 0, .str [], .ps .str [], .ps .node []], .bool false]) []))
noncomputable def C121 : List AV → (AV → List AV → Prop) → Prop
  | [.st [.int .i64 n_0, .int .i64 n_1, .str n_2, .ps .str n_3, .ps .node n_4], .str nm], K => c121 ⟨n_0, n_1, n_2, n_3, n_4⟩ nm K
  | _, _ => False
noncomputable def E121 : Ctx := mkE tab [(122, .pure F122)]
noncomputable def O121 : Nat → List DI := ordL []
theorem a121 (n : Nd) (nm : Bs) (hb : BdAs [.st (ndC n), .str nm]) (K : AV → List AV → Prop) (h : c121 n nm K) : abody E121 O121 .ps Try.f121 (Try.f121.body.getD .skip) [.st (ndC n), .str nm] K := by
  simp only [BdAs, BdA, BdL, BdC, MX, ndC, shC, itC, stC, opC, chC, nwC, flC, rqC, rsC, enc, List.cons_append, List.nil_append, and_true, true_and] at hb
  unfold c121 at h
  obtain ⟨⟨hn, hk⟩, hK1, hK2⟩ := h
  have hev := okN_even hn hk
  have hkm := kid_map (b := nm) hn hk
  have hp := place_base hn hk nm
  have hle := lb_le n.names nm
  have hs := okN_sorted hn hk
  conv => whnf
  repeat' first|((first|refine Cnd.mk (fun h=>?_) (fun h=>?_)|refine Gd.mk (fun h=>?_))<;>(try simp [etas,elDef,-List.getD_eq_getElem?_getD] at h)<;>conv=>whnf)|((first|refine Obl.mk (by first|omega|rfl|exact inK_byte _|(simp only [inK,Int.toNat_natCast,etas,elDef,o122]<;>first|omega|grind)|grind [inK,o122]) ?_|refine OblG.mk (by ((conv=>whnf);(repeat (first|refine Bx.mk ?_|(intro h;(try simp [etas,elDef,-List.getD_eq_getElem?_getD] at h);conv=>whnf)));(first|omega|rfl|exact inK_byte _|(simp only [inK,Int.toNat_natCast,etas,elDef,o122]<;>first|omega|grind)|grind [inK,o122]))) ?_|refine And.intro ?_ ?_)<;>conv=>whnf)|exact True.intro|(intro;conv=>whnf)
  · exact hK2 (hp.1.1 (by have := hkm.1; rw [h] at this; simpa using this))
  · have h0 : ¬ placeM n nm < 0 := by have := hkm.1; rw [h] at this; simpa using this
    have h1 := hkm.2 h
    have h2 := (placeM_ge n nm).2.1
    refine Obl.mk ⟨by omega, by omega⟩ ?_
    conv => whnf
    repeat' first|((first|refine Cnd.mk (fun h=>?_) (fun h=>?_)|refine Gd.mk (fun h=>?_))<;>(try simp [etas,elDef,-List.getD_eq_getElem?_getD] at h)<;>conv=>whnf)|((first|refine Obl.mk (by first|omega|rfl|exact inK_byte _|(simp only [inK,Int.toNat_natCast,etas,elDef,o122]<;>first|omega|grind)|grind [inK,o122]) ?_|refine OblG.mk (by ((conv=>whnf);(repeat (first|refine Bx.mk ?_|(intro h;(try simp [etas,elDef,-List.getD_eq_getElem?_getD] at h);conv=>whnf)));(first|omega|rfl|exact inK_byte _|(simp only [inK,Int.toNat_natCast,etas,elDef,o122]<;>first|omega|grind)|grind [inK,o122]))) ?_|refine And.intro ?_ ?_)<;>conv=>whnf)|exact True.intro|(intro;conv=>whnf)
    have e := hK1 _ (hp.2 (by omega))
    rw [h1] at e
    exact leafV e (by simp only [ndC, Int.toNat_natCast, elDef])
theorem s121 : (CtrOK Try.prog 121 (.gen .ps C121) ∧ Callable Try.prog 121) := by
  refine gen_ok (E := E121) (mkE_cons s122 (mkE_nil tab_ok)) mix (O := O121) (C := C121) (own := .ps) Try.func121 rfl (by rfl) (by kernel_rfl) (fun args K h hbd => ?_)
  unfold C121 at h; split at h
  case h_2 => exact h.elim
  exact ⟨Nat.le_of_ble_eq_true rfl, a121 ⟨_, _, _, _, _⟩ _ (by exact hbd) _ h⟩
noncomputable def c99d (o : Nd) (a : Nd) (b : Nd) (nm : Bs) (K : AV → List AV → Prop) : Prop :=
    Obl ((okN o ∧ okN a ∧ okN b) ∧ (o.kind = 4 ∧ a.kind = 4 ∧ b.kind = 4) ∧ ¬ (lookI (baseI a) nm = none ∧ lookI (baseI b) nm = none)) ((gM o a b nm = none → ∀ (x : Nd) (t : Bool), K (.tup [.st (ndD x), .bool t, .bool false]) []) ∧ (gM o a b nm = some none → ∀ x : Nd, K (.tup [.st (ndD x), .bool false, .bool true]) []) ∧ (∀ x : Nd, gM o a b nm = some (some x) → K (.tup [.st (ndD x), .bool true, .bool true]) []))
noncomputable def m99d (o : Nd) (a : Nd) (b : Nd) (nm : Bs) : Nat := 2 * SizeOf.sizeOf a
noncomputable def Dk99d (k : Nat) : List AV → (AV → List AV → Prop) → Prop
  | [.st [.int .i64 o_0, .int .i64 o_1, .str o_2, .ps .str o_3, .ps .node o_4], .st [.int .i64 a_0, .int .i64 a_1, .str a_2, .ps .str a_3, .ps .node a_4], .st [.int .i64 b_0, .int .i64 b_1, .str b_2, .ps .str b_3, .ps .node b_4], .str nm], K => Obl (m99d ⟨o_0, o_1, o_2, o_3, o_4⟩ ⟨a_0, a_1, a_2, a_3, a_4⟩ ⟨b_0, b_1, b_2, b_3, b_4⟩ nm < k) (c99d ⟨o_0, o_1, o_2, o_3, o_4⟩ ⟨a_0, a_1, a_2, a_3, a_4⟩ ⟨b_0, b_1, b_2, b_3, b_4⟩ nm K)
  | _, _ => False
noncomputable def Ck99d (k : Nat) (args : List AV) (K : AV → List AV → Prop) : Prop := Dk99d k (fixAs args) K
noncomputable def c70d (o : Nd) (a : Nd) (b : Nd) (K : AV → List AV → Prop) : Prop :=
    Obl (okN o ∧ okN a ∧ okN b) (K (optND (threeM o a b)) [])
noncomputable def m70d (o : Nd) (a : Nd) (b : Nd) : Nat := 2 * SizeOf.sizeOf a + 1
noncomputable def D70d : List AV → (AV → List AV → Prop) → Prop
  | [.st [.int .i64 o_0, .int .i64 o_1, .str o_2, .ps .str o_3, .ps .node o_4], .st [.int .i64 a_0, .int .i64 a_1, .str a_2, .ps .str a_3, .ps .node a_4], .st [.int .i64 b_0, .int .i64 b_1, .str b_2, .ps .str b_3, .ps .node b_4]], K => c70d ⟨o_0, o_1, o_2, o_3, o_4⟩ ⟨a_0, a_1, a_2, a_3, a_4⟩ ⟨b_0, b_1, b_2, b_3, b_4⟩ K
  | _, _ => False
noncomputable def C70d (args : List AV) (K : AV → List AV → Prop) : Prop := D70d (fixAs args) K
noncomputable def Dk70d (k : Nat) : List AV → (AV → List AV → Prop) → Prop
  | [.st [.int .i64 o_0, .int .i64 o_1, .str o_2, .ps .str o_3, .ps .node o_4], .st [.int .i64 a_0, .int .i64 a_1, .str a_2, .ps .str a_3, .ps .node a_4], .st [.int .i64 b_0, .int .i64 b_1, .str b_2, .ps .str b_3, .ps .node b_4]], K => Obl (m70d ⟨o_0, o_1, o_2, o_3, o_4⟩ ⟨a_0, a_1, a_2, a_3, a_4⟩ ⟨b_0, b_1, b_2, b_3, b_4⟩ < k) (c70d ⟨o_0, o_1, o_2, o_3, o_4⟩ ⟨a_0, a_1, a_2, a_3, a_4⟩ ⟨b_0, b_1, b_2, b_3, b_4⟩ K)
  | _, _ => False
noncomputable def Ck70d (k : Nat) (args : List AV) (K : AV → List AV → Prop) : Prop := Dk70d k (fixAs args) K
noncomputable def E99d (k : Nat) : Ctx := mkE tab [(70, .gen .ow (Ck70d k)), (86, .gen .ow C86d), (95, .pure F95), (121, .gen .ps C121)]
noncomputable def O99d : Nat → List DI := ordL [(8, [.q 0, .q 2, .q 3, .l 1 [2, 3], .q 4, .l 5 [], .q 6, .q 7])]
theorem a99d (k : Nat) (o : Nd) (a : Nd) (b : Nd) (nm : Bs) (hm : m99d o a b nm < k + 1) (hb : BdAs [.st (ndC o), .st (ndC a), .st (ndC b), .str nm]) (K : AV → List AV → Prop) (h : c99d o a b nm K) : abodyD (E99d k) O99d .ow Try.f99 (Try.f99.body.getD .skip) [.st (ndC o), .st (ndC a), .st (ndC b), .str nm] (fun r rs => K (fixR r) (fixAs rs)) := by
  simp only [BdAs, BdA, BdL, BdC, MX, ndC, shC, itC, stC, opC, chC, nwC, flC, rqC, rsC, enc, List.cons_append, List.nil_append, and_true, true_and] at hb
  unfold c99d at h
  unfold m99d at hm
  obtain ⟨⟨⟨ho, ha, hb⟩, ⟨hk0, hk1, hk2⟩, hne⟩, hK1, hK2, hK3⟩ := h
  have so : ∀ x, lookI (baseI ⟨o.kind, o.num, o.text, o.names, o.kids⟩) nm = some x → okN ⟨x.node.kind, x.node.num, x.node.text, x.node.names, x.node.kids⟩ := fun x h => by rw [nd_eta] at h ⊢; exact look_ok ho h
  have to : ∀ x, lookI (baseI ⟨o.kind, o.num, o.text, o.names, o.kids⟩) nm = some x → smN ⟨x.node.kind, x.node.num, x.node.text, x.node.names, x.node.kids⟩ := fun x h => by rw [nd_eta] at h ⊢; exact (look_ok ho h).sm
  have sa : ∀ x, lookI (baseI ⟨a.kind, a.num, a.text, a.names, a.kids⟩) nm = some x → okN ⟨x.node.kind, x.node.num, x.node.text, x.node.names, x.node.kids⟩ := fun x h => by rw [nd_eta] at h ⊢; exact look_ok ha h
  have ta : ∀ x, lookI (baseI ⟨a.kind, a.num, a.text, a.names, a.kids⟩) nm = some x → smN ⟨x.node.kind, x.node.num, x.node.text, x.node.names, x.node.kids⟩ := fun x h => by rw [nd_eta] at h ⊢; exact (look_ok ha h).sm
  have sb : ∀ x, lookI (baseI ⟨b.kind, b.num, b.text, b.names, b.kids⟩) nm = some x → okN ⟨x.node.kind, x.node.num, x.node.text, x.node.names, x.node.kids⟩ := fun x h => by rw [nd_eta] at h ⊢; exact look_ok hb h
  have tb : ∀ x, lookI (baseI ⟨b.kind, b.num, b.text, b.names, b.kids⟩) nm = some x → smN ⟨x.node.kind, x.node.num, x.node.text, x.node.names, x.node.kids⟩ := fun x h => by rw [nd_eta] at h ⊢; exact (look_ok hb h).sm
  have sz : ∀ x, lookI (baseI ⟨a.kind, a.num, a.text, a.names, a.kids⟩) nm = some x → SizeOf.sizeOf (⟨x.node.kind, x.node.num, x.node.text, x.node.names, x.node.kids⟩ : Nd) < SizeOf.sizeOf a := fun x h => by rw [nd_eta] at h ⊢; exact look_size h
  have hne2 : ¬ (lookI (baseI ⟨a.kind, a.num, a.text, a.names, a.kids⟩) nm = none ∧ lookI (baseI ⟨b.kind, b.num, b.text, b.names, b.kids⟩) nm = none) := by rw [nd_eta, nd_eta]; exact hne
  have hz := okN_zero
  unfold zeroN at hz
  conv => whnf
  repeat' first|((first|refine Cnd.mk (fun h=>?_) (fun h=>?_)|refine Gd.mk (fun h=>?_))<;>(try simp [etas,elDef,-List.getD_eq_getElem?_getD] at h)<;>conv=>whnf)|((first|refine Obl.mk (by first|omega|rfl|exact inK_byte _|(simp only [inK,Int.toNat_natCast,etas,elDef,m99d,m70d,m70d,m86d,o95]<;>first|omega|grind)|grind [inK,m99d,m70d,m70d,m86d,o95]) ?_|refine OblG.mk (by ((conv=>whnf);(repeat (first|refine Bx.mk ?_|(intro h;(try simp [etas,elDef,-List.getD_eq_getElem?_getD] at h);conv=>whnf)));(first|omega|rfl|exact inK_byte _|(simp only [inK,Int.toNat_natCast,etas,elDef,m99d,m70d,m70d,m86d,o95]<;>first|omega|grind)|grind [inK,m99d,m70d,m70d,m86d,o95]))) ?_|refine And.intro ?_ ?_)<;>conv=>whnf)|exact True.intro|(intro;conv=>whnf)
  · rename_i x0 e0 x1 e1 x2 e2
    simp only [nd_eta] at *
    have eg : gM o a b nm = (threeM x0.node x1.node x2.node).map some := by unfold gM; rw [e1, e2, e0]
    generalize threeM x0.node x1.node x2.node = r at *
    cases r with
    | none => exact leafV (hK1 eg default false) rfl
    | some x => exact leafV (hK3 x eg) rfl
  · rename_i x0 e0 x1 e1 e2 _ _ _
    simp only [nd_eta] at *
    have eg : gM o a b nm = if eqD x1.node x0.node then some none else none := by unfold gM; rw [e1, e2, e0]
    rw [same_eqD (sa _ e1) (so _ e0)]
    cases hq : eqD x1.node x0.node with
    | true => rw [hq] at eg; exact leafV (hK2 eg ⟨0, 0, [], [], []⟩) rfl
    | false => rw [hq] at eg; exact leafV (hK1 eg ⟨0, 0, [], [], []⟩ false) rfl
  · rename_i x0 e0 e1 x2 e2 _ _ _
    simp only [nd_eta] at *
    have eg : gM o a b nm = if eqD x2.node x0.node then some none else none := by unfold gM; rw [e1, e2, e0]
    rw [same_eqD (sb _ e2) (so _ e0)]
    cases hq : eqD x2.node x0.node with
    | true => rw [hq] at eg; exact leafV (hK2 eg ⟨0, 0, [], [], []⟩) rfl
    | false => rw [hq] at eg; exact leafV (hK1 eg ⟨0, 0, [], [], []⟩ false) rfl
  · rename_i x0 e0 e1 e2 _ _ _
    simp only [nd_eta] at *
    exact absurd ⟨e1, e2⟩ hne2
  · rename_i e0 x1 e1 x2 e2 _
    simp only [nd_eta] at *
    have eg : gM o a b nm = if eqD x1.node x2.node then some (some x1.node) else none := by unfold gM; rw [e1, e2, e0]
    rw [same_eqD (sa _ e1) (sb _ e2)]
    cases hq : eqD x1.node x2.node with
    | true => rw [hq] at eg; exact leafV (hK3 _ eg) rfl
    | false => rw [hq] at eg; exact leafV (hK1 eg x1.node true) rfl
  · rename_i e0 x1 e1 e2 _ _ _
    simp only [nd_eta] at *
    have eg : gM o a b nm = some (some x1.node) := by unfold gM; rw [e1, e2, e0]
    exact leafV (hK3 _ eg) rfl
  · rename_i e0 e1 x2 e2 _ _ _
    simp only [nd_eta] at *
    have eg : gM o a b nm = some (some x2.node) := by unfold gM; rw [e1, e2, e0]
    exact leafV (hK3 _ eg) rfl
  · rename_i e0 e1 e2 _ _ _
    simp only [nd_eta] at *
    exact absurd ⟨e1, e2⟩ hne2
noncomputable def E70d (k : Nat) : Ctx := mkE tab [(86, .gen .ow C86d), (95, .pure F95), (96, .gen .ow C96), (97, .gen .ln C97), (98, .gen .ow C98), (99, .gen .ow (Ck99d k)), (100, .gen .ow C100d)]
noncomputable def O70d : Nat → List DI := ordL []
theorem a70d (k : Nat) (o : Nd) (a : Nd) (b : Nd) (hm : m70d o a b < k + 1) (hb : BdAs [.st (ndC o), .st (ndC a), .st (ndC b)]) (K : AV → List AV → Prop) (h : c70d o a b K) : abodyD (E70d k) O70d .ow Try.f70 (Try.f70.body.getD .skip) [.st (ndC o), .st (ndC a), .st (ndC b)] (fun r rs => K (fixR r) (fixAs rs)) := by
  simp only [BdAs, BdA, BdL, BdC, MX, ndC, shC, itC, stC, opC, chC, nwC, flC, rqC, rsC, enc, List.cons_append, List.nil_append, and_true, true_and] at hb
  unfold c70d at h
  unfold m70d at hm
  obtain ⟨⟨ho, ha, hb⟩, hK⟩ := h
  have so := ho.sm
  have sa := ha.sm
  have sb := hb.sm
  have l1 := (okN_names ho).1
  have l2 := (okN_names ha).1
  have l3 := (okN_names hb).1
  have q1 := same_iff ha hb
  have q2 := same_iff hb ho
  have q3 := same_iff ha ho
  have ht := threeM_eq o a b
  conv => whnf
  repeat' first|((first|refine Cnd.mk (fun h=>?_) (fun h=>?_)|refine Gd.mk (fun h=>?_))<;>(try simp [etas,elDef,-List.getD_eq_getElem?_getD] at h)<;>conv=>whnf)|((first|refine Obl.mk (by first|omega|rfl|exact inK_byte _|(simp only [inK,Int.toNat_natCast,etas,elDef,m99d,m70d,m86d,o95,m99d]<;>first|omega|grind)|grind [inK,m99d,m70d,m86d,o95,m99d]) ?_|refine OblG.mk (by ((conv=>whnf);(repeat (first|refine Bx.mk ?_|(intro h;(try simp [etas,elDef,-List.getD_eq_getElem?_getD] at h);conv=>whnf)));(first|omega|rfl|exact inK_byte _|(simp only [inK,Int.toNat_natCast,etas,elDef,m99d,m70d,m86d,o95,m99d]<;>first|omega|grind)|grind [inK,m99d,m70d,m86d,o95,m99d]))) ?_|refine And.intro ?_ ?_)<;>conv=>whnf)|exact True.intro|(intro;conv=>whnf)
  · refine leafV hK ?_
    rw [ht, if_pos (by simp only [Bool.or_eq_true, eqD_iff]; exact h.imp q1.1 q2.1)]
    rfl
  · rename_i h1
    refine leafV hK ?_
    rw [ht, if_neg (by simp only [Bool.or_eq_true, eqD_iff]; rintro (e | e); exact h1.1 (q1.2 e); exact h1.2 (q2.2 e)), if_pos (eqD_iff.2 (q3.1 h))]
    rfl
  · rename_i h1 h2
    refine leafV hK ?_
    rw [ht, if_neg (by simp only [Bool.or_eq_true, eqD_iff]; rintro (e | e); exact h1.1 (q1.2 e); exact h1.2 (q2.2 e)), if_neg (fun e => h2 (q3.2 (eqD_iff.1 e))), if_pos (by omega)]
    rfl
  · rename_i h1 h2 x e5 e4 e3 r e2 e1 e0
    have k0 := h.1.1
    have k1 := h.1.2
    have k2 := h.2
    have hru := names_union (ascS_names ha k1) (ascS_names hb k2) (by simpa using e4) e1 e0
    rw [if_neg (by simp only [Bool.or_eq_true, eqD_iff]; rintro (e | e); exact h1.1 (q1.2 e); exact h1.2 (q2.2 e)), if_neg (fun e => h2 (q3.2 (eqD_iff.1 e))), if_neg (by omega), ← hru] at ht
    have hrl : r.length ≤ 12 := by rw [hru]; exact union_len6 ha hb
    have hg := fun nm x h => gM_sm (nm := nm) (x := x) ho ha hb h
    have hne : ∀ i, i < r.length → ¬ (lookI (baseI a) (r.getD i []) = none ∧ lookI (baseI b) (r.getD i []) = none) := fun i hi hh => by
      have hm := getD_mem (d := ([] : Bs)) hi
      rcases union_mem.1 (by rw [← hru]; exact hm) with h3 | h3
      · exact (base_none ha k1).1 hh.1 h3
      · exact (base_none hb k2).1 hh.2 h3
    clear hru e0 e1 e3 e4 
    refine aloop_intro (Nat × Bool × List It) (fun q => q.1 ≤ r.length ∧ accT o a b r q.1 = some q.2.2 ∧ (q.2.1 = true → q.2.2 = [])) (fun q => r.length - q.1) (fun q => [(59, .int .i64 q.1)]) (fun q => loT q.2.1 q.2.2) [3, 4, 5, 6, 58000] (0, true, []) [] [] ⟨Nat.zero_le _, accT_zero _ _ _ _, fun _ => rfl⟩ ?_ (by exact sgOk_of (by rfl)) ?_
    · iterate 2 ((all_goals (conv=>whnf));(repeat' (first|exact trivial|rfl|(refine nilEq ?_;first|rfl|(simp only [*];done)|(simp [*];done)|grind)|apply And.intro|((first|apply intEq|apply boolEq|apply strEq|apply psEq|apply nilEq|apply arrEq);(try simp only [Int.toNat_natCast,etas,elDef]);first | done | omega | grind | (simp only [*]; done) | (simp [*]; done)))));(all_goals ((try simp only [Int.toNat_natCast,etas,elDef]);first | done | omega | grind | (simp only [*]; done) | (simp [*]; done)))
    rintro ⟨i, fl, l⟩ ⟨hi, hl, hj⟩
    dsimp only at hi hl hj
    have hgd := accT_good hg hi hl
    have hS := fun h => accT_succ (base := o) (a := a) (b := b) (l := r) (i := i) h
    have hN := fun j h => accT_none (base := o) (a := a) (b := b) (l := r) (i := j) h
    have hM := accT_all o a b r
    have hnei := hne i
    cases fl
    · have ez := zip_back hgd.2.1
      have hso := sorted_nm.2 hgd.1
      have hl1 : (l.map (·.name)).length = (l.map (·.node)).length := by simp
      have hl2 : (l.map (·.name)).length ≤ 100000 := by have := hgd.2.2.1; simp; omega
      conv => whnf
      repeat' first|((first|refine Cnd.mk (fun h=>?_) (fun h=>?_)|refine Gd.mk (fun h=>?_))<;>(try simp [etas,elDef,-List.getD_eq_getElem?_getD] at h)<;>conv=>whnf)|((first|refine Obl.mk (by first|omega|rfl|exact inK_byte _|(simp only [inK,Int.toNat_natCast,etas,elDef,m99d,m70d,m86d,o95,m99d]<;>first|omega|grind)|grind [inK,m99d,m70d,m86d,o95,m99d]) ?_|refine OblG.mk (by ((conv=>whnf);(repeat (first|refine Bx.mk ?_|(intro h;(try simp [etas,elDef,-List.getD_eq_getElem?_getD] at h);conv=>whnf)));(first|omega|rfl|exact inK_byte _|(simp only [inK,Int.toNat_natCast,etas,elDef,m99d,m70d,m86d,o95,m99d]<;>first|omega|grind)|grind [inK,m99d,m70d,m86d,o95,m99d]))) ?_|refine And.intro ?_ ?_)<;>conv=>whnf)|exact True.intro|(intro;conv=>whnf)
      · rename_i hiu hgn n1 t
        simp only [nd_eta, Int.toNat_natCast, elDef] at hgn
        have e1 : accT o a b r (i + 1) = none := by rw [hS hiu, hl]; unfold stepT; simp only [hgn]
        exact leafV hK (by rw [ht, ← hM, hN _ e1]; rfl)
      · rename_i hiu hgn n1 _
        simp only [nd_eta, Int.toNat_natCast, elDef] at hgn
        have e1 : accT o a b r (i + 1) = some l := by rw [hS hiu, hl]; unfold stepT; simp only [hgn]
        exact ⟨(i + 1, false, l), [], [], ⟨by simp only; omega, e1, fun h => by cases h⟩, by simp only; omega, by iterate 2 ((all_goals (conv=>whnf));(repeat' (first|exact trivial|rfl|(refine nilEq ?_;first|rfl|(simp only [*];done)|(simp [*];done)|grind)|apply And.intro|((first|apply intEq|apply boolEq|apply strEq|apply psEq|apply nilEq|apply arrEq);(try simp only [Int.toNat_natCast,etas,elDef]);first | done | omega | grind | (simp only [*]; done) | (simp [*]; done)))));(all_goals ((try simp only [Int.toNat_natCast,etas,elDef]);first | done | omega | grind | (simp only [*]; done) | (simp [*]; done))), (by exact sgOk_of (by rfl))⟩
      · rename_i hiu n1 hgn _
        simp only [nd_eta, Int.toNat_natCast, elDef] at hgn
        have e1 : accT o a b r (i + 1) = some (putL l ⟨r.getD i [], 0, n1⟩) := by rw [hS hiu, hl]; unfold stepT; simp only [hgn]
        exact ⟨(i + 1, false, putL l ⟨r.getD i [], 0, n1⟩), [(900, 79000), (901, 79001)], [], ⟨by simp only; omega, e1, fun h => by cases h⟩, by simp only; omega, by iterate 2 ((all_goals (conv=>whnf));(repeat' (first|exact trivial|rfl|(refine nilEq ?_;first|rfl|(simp only [*];done)|(simp [*];done)|grind)|apply And.intro|((first|apply intEq|apply boolEq|apply strEq|apply psEq|apply nilEq|apply arrEq);(try simp only [Int.toNat_natCast,etas,elDef]);first | done | omega | (simp only [ez, nd_eta, Int.toNat_natCast, elDef]; done) | (simp only [ez, nd_eta, Int.toNat_natCast, elDef]; rfl)))));(all_goals ((try simp only [Int.toNat_natCast,etas,elDef]);first | done | omega | (simp only [ez, nd_eta, Int.toNat_natCast, elDef]; done) | (simp only [ez, nd_eta, Int.toNat_natCast, elDef]; rfl))), (by exact sgOk_of (by rfl))⟩
      · have ei : i = r.length := by omega
        rw [ei, hM] at hl
        exact leafV hK (by rw [ht, hl]; rfl)
    · have hl0 := hj rfl
      have hz0 : zipI [] [] = [] := rfl
      have hsn0 : sortedI (nmI []) := by intro a b _ h; simp [nmI] at h
      conv => whnf
      repeat' first|((first|refine Cnd.mk (fun h=>?_) (fun h=>?_)|refine Gd.mk (fun h=>?_))<;>(try simp [etas,elDef,-List.getD_eq_getElem?_getD] at h)<;>conv=>whnf)|((first|refine Obl.mk (by first|omega|rfl|exact inK_byte _|(simp only [inK,Int.toNat_natCast,etas,elDef,m99d,m70d,m86d,o95,m99d]<;>first|omega|grind)|grind [inK,m99d,m70d,m86d,o95,m99d]) ?_|refine OblG.mk (by ((conv=>whnf);(repeat (first|refine Bx.mk ?_|(intro h;(try simp [etas,elDef,-List.getD_eq_getElem?_getD] at h);conv=>whnf)));(first|omega|rfl|exact inK_byte _|(simp only [inK,Int.toNat_natCast,etas,elDef,m99d,m70d,m86d,o95,m99d]<;>first|omega|grind)|grind [inK,m99d,m70d,m86d,o95,m99d]))) ?_|refine And.intro ?_ ?_)<;>conv=>whnf)|exact True.intro|(intro;conv=>whnf)
      · rename_i hiu hgn n1 t
        simp only [nd_eta, Int.toNat_natCast, elDef] at hgn
        have e1 : accT o a b r (i + 1) = none := by rw [hS hiu, hl]; unfold stepT; simp only [hgn]
        exact leafV hK (by rw [ht, ← hM, hN _ e1]; rfl)
      · rename_i hiu hgn n1 _
        simp only [nd_eta, Int.toNat_natCast, elDef] at hgn
        have e1 : accT o a b r (i + 1) = some l := by rw [hS hiu, hl]; unfold stepT; simp only [hgn]
        exact ⟨(i + 1, true, l), [], [], ⟨by simp only; omega, e1, hj⟩, by simp only; omega, by iterate 2 ((all_goals (conv=>whnf));(repeat' (first|exact trivial|rfl|(refine nilEq ?_;first|rfl|(simp only [*];done)|(simp [*];done)|grind)|apply And.intro|((first|apply intEq|apply boolEq|apply strEq|apply psEq|apply nilEq|apply arrEq);(try simp only [Int.toNat_natCast,etas,elDef]);first | done | omega | grind | (simp only [*]; done) | (simp [*]; done)))));(all_goals ((try simp only [Int.toNat_natCast,etas,elDef]);first | done | omega | grind | (simp only [*]; done) | (simp [*]; done))), (by exact sgOk_of (by rfl))⟩
      · rename_i hiu n1 hgn _
        simp only [nd_eta, Int.toNat_natCast, elDef] at hgn
        have e1 : accT o a b r (i + 1) = some (putL [] ⟨r.getD i [], 0, n1⟩) := by rw [hS hiu, hl, hl0]; unfold stepT; simp only [hgn]
        exact ⟨(i + 1, false, putL [] ⟨r.getD i [], 0, n1⟩), [(900, 79000), (901, 79001)], [], ⟨by simp only; omega, e1, fun h => by cases h⟩, by simp only; omega, by iterate 2 ((all_goals (conv=>whnf));(repeat' (first|exact trivial|rfl|(refine nilEq ?_;first|rfl|(simp only [*];done)|(simp [*];done)|grind)|apply And.intro|((first|apply intEq|apply boolEq|apply strEq|apply psEq|apply nilEq|apply arrEq);(try simp only [Int.toNat_natCast,etas,elDef]);first | done | omega | (simp only [hz0, nd_eta, Int.toNat_natCast, elDef]; done) | (simp only [hz0, nd_eta, Int.toNat_natCast, elDef]; rfl)))));(all_goals ((try simp only [Int.toNat_natCast,etas,elDef]);first | done | omega | (simp only [hz0, nd_eta, Int.toNat_natCast, elDef]; done) | (simp only [hz0, nd_eta, Int.toNat_natCast, elDef]; rfl))), (by exact sgOk_of (by rfl))⟩
      · have ei : i = r.length := by omega
        rw [ei, hM, hl0] at hl
        exact leafV hK (by rw [ht, hl]; rfl)
theorem r99_70d : ∀ k, (CtrOK Try.prog 99 (.gen .ow (Ck99d k)) ∧ Callable Try.prog 99) ∧ (CtrOK Try.prog 70 (.gen .ow (Ck70d k)) ∧ Callable Try.prog 70) := by
  intro k
  induction k with
  | zero =>
    exact ⟨⟨fun args K h => by
        unfold Ck99d Dk99d at h; split at h
        · exact absurd h.o (Nat.not_lt_zero _)
        · exact h.elim, callable Try.func99 rfl (by rfl)⟩, ⟨fun args K h => by
        unfold Ck70d Dk70d at h; split at h
        · exact absurd h.o (Nat.not_lt_zero _)
        · exact h.elim, callable Try.func70 rfl (by rfl)⟩⟩
  | succ k ih =>
    refine ⟨?_, ?_⟩
    · refine gen_okD (E := E99d k) (mkE_cons ih.2 (mkE_cons s86d (mkE_cons s95 (mkE_cons s121 (mkE_nil tab_ok))))) mix (O := O99d) (D := (Dk99d (k + 1))) (own := .ow) Try.func99 rfl (by rfl) (by kernel_rfl) (fun args K h hbd => ?_)
      unfold Dk99d at h; split at h
      case h_2 => exact h.elim
      exact ⟨Nat.le_of_ble_eq_true rfl, a99d k ⟨_, _, _, _, _⟩ ⟨_, _, _, _, _⟩ ⟨_, _, _, _, _⟩ _ h.o (by exact hbd) _ h.k⟩
    · refine gen_okD (E := E70d k) (mkE_cons s86d (mkE_cons s95 (mkE_cons s96 (mkE_cons s97 (mkE_cons s98 (mkE_cons ih.1 (mkE_cons s100d (mkE_nil tab_ok)))))))) mix (O := O70d) (D := (Dk70d (k + 1))) (own := .ow) Try.func70 rfl (by rfl) (by kernel_rfl) (fun args K h hbd => ?_)
      unfold Dk70d at h; split at h
      case h_2 => exact h.elim
      exact ⟨Nat.le_of_ble_eq_true rfl, a70d k ⟨_, _, _, _, _⟩ ⟨_, _, _, _, _⟩ ⟨_, _, _, _, _⟩ h.o (by exact hbd) _ h.k⟩
theorem s70d : (CtrOK Try.prog 70 (.gen .ow C70d) ∧ Callable Try.prog 70) := by
  refine ⟨fun args K h => ?_, (r99_70d 0).2.2⟩
  unfold C70d D70d at h; split at h
  · rename_i heq; exact (r99_70d (m70d ⟨_, _, _, _, _⟩ ⟨_, _, _, _, _⟩ ⟨_, _, _, _, _⟩ + 1)).2.1 _ _ (by unfold Ck70d Dk70d; rw [heq]; exact ⟨Nat.lt_succ_self _, h⟩)
  · exact h.elim
noncomputable def c36d (o : Nd) (a : Nd) (b : Nd) (K : AV → List AV → Prop) : Prop :=
    K (optND (mergeThreeM o a b)) []
noncomputable def D36d : List AV → (AV → List AV → Prop) → Prop
  | [.st [.int .i64 o_0, .int .i64 o_1, .str o_2, .ps .str o_3, .ps .node o_4], .st [.int .i64 a_0, .int .i64 a_1, .str a_2, .ps .str a_3, .ps .node a_4], .st [.int .i64 b_0, .int .i64 b_1, .str b_2, .ps .str b_3, .ps .node b_4]], K => c36d ⟨o_0, o_1, o_2, o_3, o_4⟩ ⟨a_0, a_1, a_2, a_3, a_4⟩ ⟨b_0, b_1, b_2, b_3, b_4⟩ K
  | _, _ => False
noncomputable def C36d (args : List AV) (K : AV → List AV → Prop) : Prop := D36d (fixAs args) K
noncomputable def E36d : Ctx := mkE tab [(68, .pure F68), (69, .gen .ow C69d), (70, .gen .ow C70d)]
noncomputable def O36d : Nat → List DI := ordL []
theorem a36d (o : Nd) (a : Nd) (b : Nd) (hb : BdAs [.st (ndC o), .st (ndC a), .st (ndC b)]) (K : AV → List AV → Prop) (h : c36d o a b K) : abodyD E36d O36d .ow Try.f36 (Try.f36.body.getD .skip) [.st (ndC o), .st (ndC a), .st (ndC b)] (fun r rs => K (fixR r) (fixAs rs)) := by
  simp only [BdAs, BdA, BdL, BdC, MX, ndC, shC, itC, stC, opC, chC, nwC, flC, rqC, rsC, enc, List.cons_append, List.nil_append, and_true, true_and] at hb
  unfold c36d at h
  have hK9 := h
  have h1 := fun h => validM_ok (n := o) h
  have h2 := fun h => validM_ok (n := a) h
  have h3 := fun h => validM_ok (n := b) h
  conv => whnf
  repeat' first|((first|refine Cnd.mk (fun h=>?_) (fun h=>?_)|refine Gd.mk (fun h=>?_))<;>(try simp [etas,elDef,-List.getD_eq_getElem?_getD] at h)<;>conv=>whnf)|((first|refine Obl.mk (by first|omega|rfl|exact inK_byte _|(simp only [inK,Int.toNat_natCast,etas,elDef,m70d]<;>first|omega|grind)|grind [inK,m70d]) ?_|refine OblG.mk (by ((conv=>whnf);(repeat (first|refine Bx.mk ?_|(intro h;(try simp [etas,elDef,-List.getD_eq_getElem?_getD] at h);conv=>whnf)));(first|omega|rfl|exact inK_byte _|(simp only [inK,Int.toNat_natCast,etas,elDef,m70d]<;>first|omega|grind)|grind [inK,m70d]))) ?_|refine And.intro ?_ ?_)<;>conv=>whnf)|exact True.intro|(intro;conv=>whnf)
  · exact leafV hK9 (by unfold mergeThreeM; rw [if_neg (by grind)]; rfl)
  · refine leafV hK9 ?_
    have e : mergeThreeM o a b = checkedM (threeM o a b) := by unfold mergeThreeM; rw [if_pos (by simp [h])]
    rw [e, checked_if]
    simp only [nd_eta]
    first | done | rfl
theorem s36d : (CtrOK Try.prog 36 (.gen .ow C36d) ∧ Callable Try.prog 36) := by
  refine gen_okD (E := E36d) (mkE_cons s68 (mkE_cons s69d (mkE_cons s70d (mkE_nil tab_ok)))) mix (O := O36d) (D := D36d) (own := .ow) Try.func36 rfl (by rfl) (by kernel_rfl) (fun args K h hbd => ?_)
  unfold D36d at h; split at h
  case h_2 => exact h.elim
  exact ⟨Nat.le_of_ble_eq_true rfl, a36d ⟨_, _, _, _, _⟩ ⟨_, _, _, _, _⟩ ⟨_, _, _, _, _⟩ (by exact hbd) _ h⟩
noncomputable def c36r (n1 : Int) (n2 : Int) (n3 : Bs) (n4 : List Bs) (n5 : List Nd) (x1 : Int) (x2 : Int) (x3 : Bs) (x4 : List Bs) (x5 : List Nd) (y1 : Int) (y2 : Int) (y3 : Bs) (y4 : List Bs) (y5 : List Nd) (K : AV → List AV → Prop) : Prop :=
    K (optNW (mergeThreeM ⟨n1, n2, n3, n4, n5⟩ ⟨x1, x2, x3, x4, x5⟩ ⟨y1, y2, y3, y4, y5⟩)) [.own .str n4, .wr .node n5, .own .str x4, .wr .node x5, .own .str y4, .wr .node y5]
noncomputable def C36r : List AV → (AV → List AV → Prop) → Prop
  | [.tup [.st [.int .i64 n1, .int .i64 n2, .str n3, .own .str n4, .wr .node n5]], .tup [.st [.int .i64 x1, .int .i64 x2, .str x3, .own .str x4, .wr .node x5]], .tup [.st [.int .i64 y1, .int .i64 y2, .str y3, .own .str y4, .wr .node y5]]], K => c36r n1 n2 n3 n4 n5 x1 x2 x3 x4 x5 y1 y2 y3 y4 y5 K
  | _, _ => False
theorem s36r : CtrOK Try.prog 36 (.gen .ln C36r) ∧ Callable Try.prog 36 := by
  refine ⟨Snd.of (Snd.lend s36d.1) fun vs K h => ?_, s36d.2⟩
  unfold C36r at h
  split at h
  case h_2 => exact h.elim
  unfold c36r at h
  exact ⟨rfl, rfl, rfl, h⟩
noncomputable def c41d (o : Nd) (a : Nd) (b : Nd) (K : AV → List AV → Prop) : Prop :=
    K (.bool (validM o && (validM a && validM b) && (threeM o a b).isNone)) []
noncomputable def D41d : List AV → (AV → List AV → Prop) → Prop
  | [.st [.int .i64 o_0, .int .i64 o_1, .str o_2, .ps .str o_3, .ps .node o_4], .st [.int .i64 a_0, .int .i64 a_1, .str a_2, .ps .str a_3, .ps .node a_4], .st [.int .i64 b_0, .int .i64 b_1, .str b_2, .ps .str b_3, .ps .node b_4]], K => c41d ⟨o_0, o_1, o_2, o_3, o_4⟩ ⟨a_0, a_1, a_2, a_3, a_4⟩ ⟨b_0, b_1, b_2, b_3, b_4⟩ K
  | _, _ => False
noncomputable def C41d (args : List AV) (K : AV → List AV → Prop) : Prop := D41d (fixAs args) K
noncomputable def E41d : Ctx := mkE tab [(68, .pure F68), (70, .gen .ow C70d)]
noncomputable def O41d : Nat → List DI := ordL []
theorem a41d (o : Nd) (a : Nd) (b : Nd) (hb : BdAs [.st (ndC o), .st (ndC a), .st (ndC b)]) (K : AV → List AV → Prop) (h : c41d o a b K) : abodyD E41d O41d .ow Try.f41 (Try.f41.body.getD .skip) [.st (ndC o), .st (ndC a), .st (ndC b)] (fun r rs => K (fixR r) (fixAs rs)) := by
  simp only [BdAs, BdA, BdL, BdC, MX, ndC, shC, itC, stC, opC, chC, nwC, flC, rqC, rsC, enc, List.cons_append, List.nil_append, and_true, true_and] at hb
  unfold c41d at h
  have hK9 := h
  have h1 := fun h => validM_ok (n := o) h
  have h2 := fun h => validM_ok (n := a) h
  have h3 := fun h => validM_ok (n := b) h
  conv => whnf
  repeat' first|((first|refine Cnd.mk (fun h=>?_) (fun h=>?_)|refine Gd.mk (fun h=>?_))<;>(try simp [etas,elDef,-List.getD_eq_getElem?_getD] at h)<;>conv=>whnf)|((first|refine Obl.mk (by first|omega|rfl|exact inK_byte _|(simp only [inK,Int.toNat_natCast,etas,elDef,m70d]<;>first|omega|grind)|grind [inK,m70d]) ?_|refine OblG.mk (by ((conv=>whnf);(repeat (first|refine Bx.mk ?_|(intro h;(try simp [etas,elDef,-List.getD_eq_getElem?_getD] at h);conv=>whnf)));(first|omega|rfl|exact inK_byte _|(simp only [inK,Int.toNat_natCast,etas,elDef,m70d]<;>first|omega|grind)|grind [inK,m70d]))) ?_|refine And.intro ?_ ?_)<;>conv=>whnf)|exact True.intro|(intro;conv=>whnf)
  · exact leafV hK9 (by rcases h with (h | h) | h <;> simp [h] <;> rfl)
  · refine leafV hK9 ?_
    simp only [nd_eta, h, Bool.true_and]
    cases threeM o a b <;> rfl
theorem s41d : (CtrOK Try.prog 41 (.gen .ow C41d) ∧ Callable Try.prog 41) := by
  refine gen_okD (E := E41d) (mkE_cons s68 (mkE_cons s70d (mkE_nil tab_ok))) mix (O := O41d) (D := D41d) (own := .ow) Try.func41 rfl (by rfl) (by kernel_rfl) (fun args K h hbd => ?_)
  unfold D41d at h; split at h
  case h_2 => exact h.elim
  exact ⟨Nat.le_of_ble_eq_true rfl, a41d ⟨_, _, _, _, _⟩ ⟨_, _, _, _, _⟩ ⟨_, _, _, _, _⟩ (by exact hbd) _ h⟩
noncomputable def c41r (n1 : Int) (n2 : Int) (n3 : Bs) (n4 : List Bs) (n5 : List Nd) (x1 : Int) (x2 : Int) (x3 : Bs) (x4 : List Bs) (x5 : List Nd) (y1 : Int) (y2 : Int) (y3 : Bs) (y4 : List Bs) (y5 : List Nd) (K : AV → List AV → Prop) : Prop :=
    K (.bool (validM ⟨n1, n2, n3, n4, n5⟩ && (validM ⟨x1, x2, x3, x4, x5⟩ && validM ⟨y1, y2, y3, y4, y5⟩) && (threeM ⟨n1, n2, n3, n4, n5⟩ ⟨x1, x2, x3, x4, x5⟩ ⟨y1, y2, y3, y4, y5⟩).isNone)) [.own .str n4, .wr .node n5, .own .str x4, .wr .node x5, .own .str y4, .wr .node y5]
noncomputable def C41r : List AV → (AV → List AV → Prop) → Prop
  | [.tup [.st [.int .i64 n1, .int .i64 n2, .str n3, .own .str n4, .wr .node n5]], .tup [.st [.int .i64 x1, .int .i64 x2, .str x3, .own .str x4, .wr .node x5]], .tup [.st [.int .i64 y1, .int .i64 y2, .str y3, .own .str y4, .wr .node y5]]], K => c41r n1 n2 n3 n4 n5 x1 x2 x3 x4 x5 y1 y2 y3 y4 y5 K
  | _, _ => False
theorem s41r : CtrOK Try.prog 41 (.gen .ln C41r) ∧ Callable Try.prog 41 := by
  refine ⟨Snd.of (Snd.lend s41d.1) fun vs K h => ?_, s41d.2⟩
  unfold C41r at h
  split at h
  case h_2 => exact h.elim
  unfold c41r at h
  exact ⟨rfl, rfl, rfl, h⟩
end Go.Rs

