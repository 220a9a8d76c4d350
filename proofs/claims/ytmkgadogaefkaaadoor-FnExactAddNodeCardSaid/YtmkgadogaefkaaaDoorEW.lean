import Derived.Test.YtmkgadogaefkaaaDoorER
import Derived.Test.YtmkgadogaefkaaaDoorEP
import Derived.Test.YtmkgadogaefkaaaDoorEL
import Derived.Test.YtmkgadogaefkaaaDoorDI
import Derived.Test.YtmkgadogaefkaaaDoorInD
import Derived.Test.YtmkgadogaefkaaaDoorCV
set_option linter.all false
set_option linter.unusedSimpArgs false
set_option linter.unusedVariables false
namespace Go.Rs
open Go.Proofs Go.RowKit
set_option maxRecDepth 100000
def optND (r : Option Nd) : AV := .tup [.st (ndD (r.getD default)), .bool r.isSome]
def optNW (r : Option Nd) : AV := .tup [.st (ndW (r.getD default)), .bool r.isSome]
noncomputable def c43d (kd : Int) (m : Int) (t : Bs) (ns : List Bs) (ks : List Nd) (b : Bs) (x1 : Int) (x2 : Int) (x3 : Bs) (x4 : List Bs) (x5 : List Nd) (K : AV → List AV → Prop) : Prop :=
    Obl ((sortedI (nmI ns) ∧ ns.length = ks.length) ∧ ns.length ≤ 100000) (K (.tup []) [.ref [.int .i64 kd, .int .i64 m, .str t, .own .str ((putL (zipI ns ks) ⟨b, 0, ⟨x1, x2, x3, x4, x5⟩⟩).map (·.name)), .dp .node ((putL (zipI ns ks) ⟨b, 0, ⟨x1, x2, x3, x4, x5⟩⟩).map (·.node))]])
noncomputable def D43d : List AV → (AV → List AV → Prop) → Prop
  | [.ref [.int .i64 kd, .int .i64 m, .str t, .own .str ns, .dp .node ks], .str b, .st [.int .i64 x1, .int .i64 x2, .str x3, .own .str x4, .dp .node x5]], K => c43d kd m t ns ks b x1 x2 x3 x4 x5 K
  | _, _ => False
noncomputable def C43d (args : List AV) (K : AV → List AV → Prop) : Prop := D43d (fixAs args) K
noncomputable def E43d : Ctx := mkE tab [(45, .gen .ow C45d), (53, .pure F53), (54, .gen .ow C54)]
noncomputable def O43d : Nat → List DI := ordL [(3, [.q 0, .q 1, .q 2, .q 3, .q 4, .q 5, .q 6, .l 7 []]), (5, [.q 0, .q 1, .q 2, .q 3, .q 4, .q 5, .q 6, .l 7 [4], .l 8 [], .q 9, .q 10, .l 11 []])]
theorem a43d (kd : Int) (m : Int) (t : Bs) (ns : List Bs) (ks : List Nd) (b : Bs) (x1 : Int) (x2 : Int) (x3 : Bs) (x4 : List Bs) (x5 : List Nd) (hb : BdAs [.ref [.int .i64 kd, .int .i64 m, .str t, .own .str ns, .dp .node ks], .str b, .st [.int .i64 x1, .int .i64 x2, .str x3, .own .str x4, .dp .node x5]]) (K : AV → List AV → Prop) (h : c43d kd m t ns ks b x1 x2 x3 x4 x5 K) : abodyD E43d O43d .ow Tryd.f43 (Tryd.f43.body.getD .skip) [.ref [.int .i64 kd, .int .i64 m, .str t, .own .str ns, .dp .node ks], .str b, .st [.int .i64 x1, .int .i64 x2, .str x3, .own .str x4, .dp .node x5]] (fun r rs => K (fixR r) (fixAs rs)) := by
  simp only [BdAs, BdA, BdL, BdC, MX, ndC, shC, itC, stC, opC, chC, nwC, flC, rqC, rsC, enc, List.cons_append, List.nil_append, and_true, true_and] at hb
  unfold c43d at h
  obtain ⟨⟨⟨hs, hl⟩, hn⟩, hK⟩ := h
  have hp := put_rows (b := b) (x := ⟨x1, x2, x3, x4, x5⟩) hl hs
  have hf := fun h => found_lt (ns := ns) (b := b) h
  have hle := lb_le ns b
  conv => whnf
  repeat' first|(refine Cnd.mk (fun h=>?_) (fun h=>?_)<;>(try simp [etas,elDef,-List.getD_eq_getElem?_getD] at h)<;>conv=>whnf)|(refine Obl.mk (by first|omega|rfl|exact inK_byte _|(simp only [inK,Int.toNat_natCast,etas,elDef,o53]<;>first|omega|grind)|grind [inK,o53]) ?_<;>conv=>whnf)|(refine OblG.mk (by ((conv=>whnf);(repeat (first|(refine Bx.mk ?_)|(intro h;(try simp [etas,elDef,-List.getD_eq_getElem?_getD] at h);conv=>whnf)));(first|omega|rfl|exact inK_byte _|(simp only [inK,Int.toNat_natCast,etas,elDef,o53]<;>first|omega|grind)|grind [inK,o53]))) ?_<;>conv=>whnf)|(refine Gd.mk (fun h=>?_)<;>(try simp [etas,elDef,-List.getD_eq_getElem?_getD] at h)<;>conv=>whnf)|(refine And.intro ?_ ?_<;>conv=>whnf)|exact True.intro|(intro;conv=>whnf)
  · exact leafV2 hK ⟨rfl, by rw [(hp.1 h).1, (hp.1 h).2]; simp only [Int.toNat_natCast, nd_eta]; rfl⟩
  · exact leafV2 hK ⟨rfl, by rw [(hp.2 h).1, (hp.2 h).2]; simp only [Int.toNat_natCast, nd_eta]; rfl⟩
theorem s43d : (CtrOK Tryd.prog 43 (.gen .ow C43d) ∧ Callable Tryd.prog 43) := by
  refine gen_okD (E := E43d) (mkE_cons s45d (mkE_cons s53 (mkE_cons s54 (mkE_nil tab_ok)))) mix (O := O43d) (D := D43d) (own := .ow) Tryd.func43 rfl (by rfl) (by kernel_rfl) (fun args K h hbd => ?_)
  unfold D43d at h; split at h
  case h_2 => exact h.elim
  exact ⟨Nat.le_of_ble_eq_true rfl, a43d _ _ _ _ _ _ _ _ _ _ _ (by exact hbd) _ h⟩
noncomputable def c27d (n : Nd) (b : Bs) (x : Nd) (K : AV → List AV → Prop) : Prop :=
    Obl (okN n ∧ smN x) (K (optND (addHereM n b x)) [])
noncomputable def D27d : List AV → (AV → List AV → Prop) → Prop
  | [.st [.int .i64 n_0, .int .i64 n_1, .str n_2, .ps .str n_3, .ps .node n_4], .str b, .st [.int .i64 x_0, .int .i64 x_1, .str x_2, .ps .str x_3, .ps .node x_4]], K => c27d ⟨n_0, n_1, n_2, n_3, n_4⟩ b ⟨x_0, x_1, x_2, x_3, x_4⟩ K
  | _, _ => False
noncomputable def C27d (args : List AV) (K : AV → List AV → Prop) : Prop := D27d (fixAs args) K
noncomputable def E27d : Ctx := mkE tab [(23, .gen .ow C23d), (42, .pure F42), (43, .gen .ow C43d), (44, .pure F44), (45, .gen .ow C45d)]
noncomputable def O27d : Nat → List DI := ordL [(12, [.q 0, .q 1, .q 2, .q 3, .l 4 [1], .l 5 [1], .l 6 [], .q 7, .l 8 []])]
theorem a27d (n : Nd) (b : Bs) (x : Nd) (hb : BdAs [.st (ndC n), .str b, .st (ndC x)]) (K : AV → List AV → Prop) (h : c27d n b x K) : abodyD E27d O27d .ow Tryd.f27 (Tryd.f27.body.getD .skip) [.st (ndC n), .str b, .st (ndC x)] (fun r rs => K (fixR r) (fixAs rs)) := by
  simp only [BdAs, BdA, BdL, BdC, MX, ndC, shC, itC, stC, opC, chC, nwC, flC, rqC, rsC, enc, List.cons_append, List.nil_append, and_true, true_and] at hb
  unfold c27d at h
  obtain ⟨⟨hn, hx⟩, hK⟩ := h
  have hsn := hn.sm
  have h6 := okN_kids hn
  have h7 := (okN_names hn).1
  have hbare := okN_bare hn
  have hpl := placeM_ge n b
  have hso := fun h => okN_sorted hn h
  have hev := (okN_names hn).2.1
  have hnm := (okN_names hn).2.2
  have hkm := kidM_ok (b := b) hn
  have hk0 : (kidM n b).2 = true → 0 ≤ (kidM n b).1 ∧ (kidM n b).1 ≤ n.kids.length := fun h => by
    have h1 := hkm.1
    have h2 := hkm.2 h
    rw [h] at h1
    have : ¬ placeM n b < 0 := by simpa using h1
    omega
  conv => whnf
  repeat' first|(refine Cnd.mk (fun h=>?_) (fun h=>?_)<;>(try simp [etas,elDef,-List.getD_eq_getElem?_getD] at h)<;>conv=>whnf)|(refine Obl.mk (by first|omega|rfl|exact inK_byte _|(simp only [inK,Int.toNat_natCast,etas,elDef,m23d,o42,o44]<;>first|omega|grind)|grind [inK,m23d,o42,o44]) ?_<;>conv=>whnf)|(refine OblG.mk (by ((conv=>whnf);(repeat (first|(refine Bx.mk ?_)|(intro h;(try simp [etas,elDef,-List.getD_eq_getElem?_getD] at h);conv=>whnf)));(first|omega|rfl|exact inK_byte _|(simp only [inK,Int.toNat_natCast,etas,elDef,m23d,o42,o44]<;>first|omega|grind)|grind [inK,m23d,o42,o44]))) ?_<;>conv=>whnf)|(refine Gd.mk (fun h=>?_)<;>(try simp [etas,elDef,-List.getD_eq_getElem?_getD] at h)<;>conv=>whnf)|(refine And.intro ?_ ?_<;>conv=>whnf)|exact True.intro|(intro;conv=>whnf)
  · have e := add_map hn h b x
    have e2 : baseI n = zipI n.names n.kids := by unfold baseI; rw [if_pos h]
    have n0 := hbare.1 (by omega)
    have t0 := hbare.2 (by omega)
    exact leafV hK (by rw [e, e2]; simp only [optND, ndD, fixR, fixV, fixVs, fixL, fix1, deepE, ndOf, ndC, enc, Option.getD_some, Option.isSome_some, nd_eta, h, n0, t0])
  · rename_i h4 h3 h1
    have hp : placeM n b < 0 := by have := hkm.1; rw [h1.1] at this; simpa using this
    have e := add_list h3 b x
    rw [if_neg (by omega), if_pos h1.2] at e
    exact leafV hK (by rw [e]; simp only [optND, ndD, fixR, fixV, fixVs, fixL, fix1, deepE, ndC, enc, Option.getD_some, Option.isSome_some, nd_eta, h3, hbare.1 (show n.kind ≠ 1 by omega), hbare.2 (show n.kind ≠ 2 by omega), hnm h4, insM, Int.toNat_natCast])
  · rename_i h4 h3 h1
    have hp : placeM n b < 0 := by have := hkm.1; rw [h] at this; simpa using this
    have e := add_list h3 b x
    rw [if_neg (by omega), if_neg (by have := h1 h; grind)] at e
    exact leafV hK (by rw [e]; rfl)
  · rename_i h4 h3 h1
    have hp : ¬ placeM n b < 0 := by have := hkm.1; rw [h] at this; simpa using this
    have e1 := hkm.2 h
    have e := add_list h3 b x
    rw [if_pos (by omega)] at e
    exact leafV hK (by rw [e]; simp only [nd_eta, e1]; simp only [optND, ndD, fixR, fixV, fixVs, fixL, fix1, deepE, ndC, enc, Option.getD_some, Option.isSome_some, nd_eta, h3, hbare.1 (show n.kind ≠ 1 by omega), hbare.2 (show n.kind ≠ 2 by omega), hnm h4, insM])
  · have e := add_leaf h (by assumption) b x
    exact leafV hK (by rw [e]; rfl)
theorem s27d : (CtrOK Tryd.prog 27 (.gen .ow C27d) ∧ Callable Tryd.prog 27) := by
  refine gen_okD (E := E27d) (mkE_cons s23d (mkE_cons s42 (mkE_cons s43d (mkE_cons s44 (mkE_cons s45d (mkE_nil tab_ok)))))) mix (O := O27d) (D := D27d) (own := .ow) Tryd.func27 rfl (by rfl) (by kernel_rfl) (fun args K h hbd => ?_)
  unfold D27d at h; split at h
  case h_2 => exact h.elim
  exact ⟨Nat.le_of_ble_eq_true rfl, a27d ⟨_, _, _, _, _⟩ _ ⟨_, _, _, _, _⟩ (by exact hbd) _ h⟩
noncomputable def c26d (n : Nd) (q : List Bs) (k : Int) (x : Nd) (K : AV → List AV → Prop) : Prop :=
    Obl ((okN n ∧ smN x) ∧ 0 ≤ k ∧ k < q.length) (K (optND (addHereM n (q.getD k.toNat []) x)) [])
noncomputable def D26d : List AV → (AV → List AV → Prop) → Prop
  | [.st [.int .i64 n_0, .int .i64 n_1, .str n_2, .ps .str n_3, .ps .node n_4], .ep .strs [q] 0 0, .ep .i64 [k] 0 0, .ep .node [x] 0 0], K => c26d ⟨n_0, n_1, n_2, n_3, n_4⟩ q k x K
  | _, _ => False
noncomputable def C26d (args : List AV) (K : AV → List AV → Prop) : Prop := D26d (fixAs args) K
noncomputable def E26d : Ctx := mkE tab [(27, .gen .ow C27d)]
noncomputable def O26d : Nat → List DI := ordL [(1, [.q 0, .q 1, .q 2, .q 3, .q 4, .q 5, .l 6 [], .q 7, .q 8, .l 9 [], .q 10])]
theorem a26d (n : Nd) (q : List Bs) (k : Int) (x : Nd) (hb : BdAs [.st (ndC n), .ep .strs [q] 0 0, .ep .i64 [k] 0 0, .ep .node [x] 0 0]) (K : AV → List AV → Prop) (h : c26d n q k x K) : abodyD E26d O26d .ow Tryd.f26 (Tryd.f26.body.getD .skip) [.st (ndC n), .ep .strs [q] 0 0, .ep .i64 [k] 0 0, .ep .node [x] 0 0] (fun r rs => K (fixR r) (fixAs rs)) := by
  simp only [BdAs, BdA, BdL, BdC, MX, ndC, shC, itC, stC, opC, chC, nwC, flC, rqC, rsC, enc, List.cons_append, List.nil_append, and_true, true_and] at hb
  unfold c26d at h
  obtain ⟨⟨⟨hn, hx⟩, hk⟩, hK⟩ := h
  conv => whnf
  repeat' first|(refine Cnd.mk (fun h=>?_) (fun h=>?_)<;>(try simp [etas,elDef,-List.getD_eq_getElem?_getD] at h)<;>conv=>whnf)|(refine Obl.mk (by first|omega|rfl|exact inK_byte _|(simp only [inK,Int.toNat_natCast,etas,elDef]<;>first|omega|grind)|grind [inK]) ?_<;>conv=>whnf)|(refine OblG.mk (by ((conv=>whnf);(repeat (first|(refine Bx.mk ?_)|(intro h;(try simp [etas,elDef,-List.getD_eq_getElem?_getD] at h);conv=>whnf)));(first|omega|rfl|exact inK_byte _|(simp only [inK,Int.toNat_natCast,etas,elDef]<;>first|omega|grind)|grind [inK]))) ?_<;>conv=>whnf)|(refine Gd.mk (fun h=>?_)<;>(try simp [etas,elDef,-List.getD_eq_getElem?_getD] at h)<;>conv=>whnf)|(refine And.intro ?_ ?_<;>conv=>whnf)|exact True.intro|(intro;conv=>whnf)
  exact leafV hK (by simp only [optND, nd_eta, elDef, List.getD_cons_zero, Int.toNat_zero]; try rfl)
theorem s26d : (CtrOK Tryd.prog 26 (.gen .ow C26d) ∧ Callable Tryd.prog 26) := by
  refine gen_okD (E := E26d) (mkE_cons s27d (mkE_nil tab_ok)) mix (O := O26d) (D := D26d) (own := .ow) Tryd.func26 rfl (by rfl) (by kernel_rfl) (fun args K h hbd => ?_)
  unfold D26d at h; split at h
  case h_2 => exact h.elim
  exact ⟨Nat.le_of_ble_eq_true rfl, a26d ⟨_, _, _, _, _⟩ _ _ _ (by exact hbd) _ h⟩
noncomputable def c25e (n : Nd) (p : List Bs) (q : List Bs) (j : Int) (x : Nd) (K : AV → List AV → Prop) : Prop :=
    Obl ((okN n ∧ smN x) ∧ 0 ≤ j ∧ j < q.length) (K (optND (chgM (fun m => addHereM m (q.getD j.toNat []) x) n p)) [])
noncomputable def m25e (n : Nd) (p : List Bs) (q : List Bs) (j : Int) (x : Nd) : Nat := p.length
noncomputable def D25e : List AV → (AV → List AV → Prop) → Prop
  | [.st [.int .i64 n_0, .int .i64 n_1, .str n_2, .ps .str n_3, .ps .node n_4], .ps .str p, .fn 26 [.ep .strs [q] 0 0, .ep .i64 [j] 0 0, .ep .node [x] 0 0]], K => c25e ⟨n_0, n_1, n_2, n_3, n_4⟩ p q j x K
  | _, _ => False
noncomputable def C25e (args : List AV) (K : AV → List AV → Prop) : Prop := D25e (fixAs args) K
noncomputable def Dk25e (k : Nat) : List AV → (AV → List AV → Prop) → Prop
  | [.st [.int .i64 n_0, .int .i64 n_1, .str n_2, .ps .str n_3, .ps .node n_4], .ps .str p, .fn 26 [.ep .strs [q] 0 0, .ep .i64 [j] 0 0, .ep .node [x] 0 0]], K => Obl (m25e ⟨n_0, n_1, n_2, n_3, n_4⟩ p q j x < k) (c25e ⟨n_0, n_1, n_2, n_3, n_4⟩ p q j x K)
  | _, _ => False
noncomputable def Ck25e (k : Nat) (args : List AV) (K : AV → List AV → Prop) : Prop := Dk25e k (fixAs args) K
noncomputable def E25e (k : Nat) : Ctx := mkE tab [(23, .gen .ow C23d), (25, .gen .ow (Ck25e k)), (26, .gen .ow C26d), (42, .pure F42)]
noncomputable def O25e : Nat → List DI := ordL [(3, [.q 0, .q 1, .q 2, .q 3, .q 4, .q 5, .q 6, .q 7, .q 8, .q 9]), (6, [.q 0, .q 1, .q 2, .q 3, .q 4, .q 5, .q 6, .q 7, .l 8 [], .q 9, .q 10, .q 11, .a 12, .l 13 [], .q 14])]
theorem a25e (k : Nat) (n : Nd) (p : List Bs) (q : List Bs) (j : Int) (x : Nd) (hm : m25e n p q j x < k + 1) (hb : BdAs [.st (ndC n), .ps .str p, .fn 26 [.ep .strs [q] 0 0, .ep .i64 [j] 0 0, .ep .node [x] 0 0]]) (K : AV → List AV → Prop) (h : c25e n p q j x K) : abodyD (E25e k) O25e .ow Tryd.f25 (Tryd.f25.body.getD .skip) [.st (ndC n), .ps .str p, .fn 26 [.ep .strs [q] 0 0, .ep .i64 [j] 0 0, .ep .node [x] 0 0]] (fun r rs => K (fixR r) (fixAs rs)) := by
  simp only [BdAs, BdA, BdL, BdC, MX, ndC, shC, itC, stC, opC, chC, nwC, flC, rqC, rsC, enc, List.cons_append, List.nil_append, and_true, true_and] at hb
  unfold c25e at h
  unfold m25e at hm
  obtain ⟨⟨⟨hn, hx⟩, hk⟩, hK⟩ := h
  have hsn := hn.sm
  have h6 := okN_kids hn
  have hkm := kidM_ok (b := p.getD 0 []) hn
  have hpl := placeM_ge n (p.getD 0 [])
  have hok := fun h => okN_kid hn (j := (placeM n (p.getD 0 [])).toNat) h
  rcases Nat.eq_zero_or_pos p.length with h0 | h0
  · obtain rfl := List.length_eq_zero_iff.1 h0
    conv => whnf
    repeat' first|(refine Cnd.mk (fun h=>?_) (fun h=>?_)<;>(try simp [etas,elDef,-List.getD_eq_getElem?_getD] at h)<;>conv=>whnf)|(refine Obl.mk (by first|omega|rfl|exact inK_byte _|(simp only [inK,Int.toNat_natCast,etas,elDef,m25e,m23d,m25e,o42]<;>first|omega|grind)|grind [inK,m25e,m23d,m25e,o42]) ?_<;>conv=>whnf)|(refine OblG.mk (by ((conv=>whnf);(repeat (first|(refine Bx.mk ?_)|(intro h;(try simp [etas,elDef,-List.getD_eq_getElem?_getD] at h);conv=>whnf)));(first|omega|rfl|exact inK_byte _|(simp only [inK,Int.toNat_natCast,etas,elDef,m25e,m23d,m25e,o42]<;>first|omega|grind)|grind [inK,m25e,m23d,m25e,o42]))) ?_<;>conv=>whnf)|(refine Gd.mk (fun h=>?_)<;>(try simp [etas,elDef,-List.getD_eq_getElem?_getD] at h)<;>conv=>whnf)|(refine And.intro ?_ ?_<;>conv=>whnf)|exact True.intro|(intro;conv=>whnf)
    · exact leafV hK (by simp only [chgM, optND, nd_eta]; rfl)
    all_goals (exfalso; simp_all)
  · have e0 := chgM_at (f := fun m => addHereM m (q.getD j.toNat []) x) (n := n) h0
    rw [List.drop_one] at e0
    have hpk := fun (h : (kidM n (p.getD 0 [])).2 = true) => show ¬ placeM n (p.getD 0 []) < 0 by have := hkm.1; rw [h] at this; simpa using this
    have hk2 := fun (h : (kidM n (p.getD 0 [])).2 = true) => show 0 ≤ (kidM n (p.getD 0 [])).1 ∧ (kidM n (p.getD 0 [])).1 < n.kids.length by have h1 := hpk h; have h2 := hkm.2 h; omega
    have hok2 := fun (h : (kidM n (p.getD 0 [])).2 = true) => okN_kid hn (j := (kidM n (p.getD 0 [])).1.toNat) (by have := hk2 h; omega)
    conv => whnf
    repeat' first|(refine Cnd.mk (fun h=>?_) (fun h=>?_)<;>(try simp [etas,elDef,-List.getD_eq_getElem?_getD] at h)<;>conv=>whnf)|(refine Obl.mk (by first|omega|rfl|exact inK_byte _|(simp only [inK,Int.toNat_natCast,etas,elDef,m25e,m23d,m25e,o42]<;>first|omega|grind)|grind [inK,m25e,m23d,m25e,o42]) ?_<;>conv=>whnf)|(refine OblG.mk (by ((conv=>whnf);(repeat (first|(refine Bx.mk ?_)|(intro h;(try simp [etas,elDef,-List.getD_eq_getElem?_getD] at h);conv=>whnf)));(first|omega|rfl|exact inK_byte _|(simp only [inK,Int.toNat_natCast,etas,elDef,m25e,m23d,m25e,o42]<;>first|omega|grind)|grind [inK,m25e,m23d,m25e,o42]))) ?_<;>conv=>whnf)|(refine Gd.mk (fun h=>?_)<;>(try simp [etas,elDef,-List.getD_eq_getElem?_getD] at h)<;>conv=>whnf)|(refine And.intro ?_ ?_<;>conv=>whnf)|exact True.intro|(intro;conv=>whnf)
    · exfalso; subst h; simp at h0
    · have hp : placeM n (p.getD 0 []) < 0 := by have := hkm.1; rw [h] at this; simpa using this
      exact leafV hK (by rw [e0, if_pos hp]; rfl)
    · rename_i h1
      have hp := hpk h1
      rw [hkm.2 h1] at h
      exact leafV hK (by rw [e0, if_neg hp, h]; rfl)
    · rename_i h1
      have hp := hpk h1
      have e1 := hkm.2 h1
      rw [e1] at h
      obtain ⟨m, hm⟩ := Option.isSome_iff_exists.1 h
      rw [hm] at e0
      refine leafV hK ?_
      rw [e0, if_neg hp]
      simp only [optND, nd_eta, elDef, Int.toNat_zero, Int.toNat_natCast, List.take_length, List.drop_one, Int.toNat_one, e1, hm, Option.map_some, Option.getD_some, Option.isSome_some]
      first | done | rfl
theorem r25e : ∀ k, (CtrOK Tryd.prog 25 (.gen .ow (Ck25e k)) ∧ Callable Tryd.prog 25) := by
  intro k
  induction k with
  | zero =>
    exact ⟨fun args K h => by
        unfold Ck25e Dk25e at h; split at h
        · exact absurd h.o (Nat.not_lt_zero _)
        · exact h.elim, callable Tryd.func25 rfl (by rfl)⟩
  | succ k ih =>
    refine gen_okD (E := E25e k) (mkE_cons s23d (mkE_cons ih (mkE_cons s26d (mkE_cons s42 (mkE_nil tab_ok))))) mix (O := O25e) (D := (Dk25e (k + 1))) (own := .ow) Tryd.func25 rfl (by rfl) (by kernel_rfl) (fun args K h hbd => ?_)
    unfold Dk25e at h; split at h
    case h_2 => exact h.elim
    exact ⟨Nat.le_of_ble_eq_true rfl, a25e k ⟨_, _, _, _, _⟩ _ _ _ _ h.o (by exact hbd) _ h.k⟩
theorem s25e : (CtrOK Tryd.prog 25 (.gen .ow C25e) ∧ Callable Tryd.prog 25) := by
  refine ⟨fun args K h => ?_, (r25e 0).2⟩
  unfold C25e D25e at h; split at h
  · rename_i heq; exact (r25e (m25e ⟨_, _, _, _, _⟩ _ _ _ _ + 1)).1 _ _ (by unfold Ck25e Dk25e; rw [heq]; exact ⟨Nat.lt_succ_self _, h⟩)
  · exact h.elim
noncomputable def c24d (n1 : Int) (n2 : Int) (n3 : Bs) (n4 : List Bs) (n5 : List Nd) (b : Bool) (K : AV → List AV → Prop) : Prop :=
    K (optND (if b && validM ⟨n1, n2, n3, n4, n5⟩ then some ⟨n1, n2, n3, n4, n5⟩ else none)) []
noncomputable def D24d : List AV → (AV → List AV → Prop) → Prop
  | [.st [.int .i64 n1, .int .i64 n2, .str n3, .own .str n4, .dp .node n5], .bool b], K => c24d n1 n2 n3 n4 n5 b K
  | _, _ => False
noncomputable def C24d (args : List AV) (K : AV → List AV → Prop) : Prop := D24d (fixAs args) K
noncomputable def E24d : Ctx := mkE tab [(21, .pure F21)]
noncomputable def O24d : Nat → List DI := ordL []
theorem a24d (n1 : Int) (n2 : Int) (n3 : Bs) (n4 : List Bs) (n5 : List Nd) (b : Bool) (hb : BdAs [.st [.int .i64 n1, .int .i64 n2, .str n3, .own .str n4, .dp .node n5], .bool b]) (K : AV → List AV → Prop) (h : c24d n1 n2 n3 n4 n5 b K) : abodyD E24d O24d .ow Tryd.f24 (Tryd.f24.body.getD .skip) [.st [.int .i64 n1, .int .i64 n2, .str n3, .own .str n4, .dp .node n5], .bool b] (fun r rs => K (fixR r) (fixAs rs)) := by
  simp only [BdAs, BdA, BdL, BdC, MX, ndC, shC, itC, stC, opC, chC, nwC, flC, rqC, rsC, enc, List.cons_append, List.nil_append, and_true, true_and] at hb
  unfold c24d at h
  have hK9 := h
  conv => whnf
  repeat' first|(refine Cnd.mk (fun h=>?_) (fun h=>?_)<;>(try simp [etas,elDef,-List.getD_eq_getElem?_getD] at h)<;>conv=>whnf)|(refine Obl.mk (by first|omega|rfl|exact inK_byte _|(simp only [inK,Int.toNat_natCast,etas,elDef]<;>first|omega|grind)|grind [inK]) ?_<;>conv=>whnf)|(refine OblG.mk (by ((conv=>whnf);(repeat (first|(refine Bx.mk ?_)|(intro h;(try simp [etas,elDef,-List.getD_eq_getElem?_getD] at h);conv=>whnf)));(first|omega|rfl|exact inK_byte _|(simp only [inK,Int.toNat_natCast,etas,elDef]<;>first|omega|grind)|grind [inK]))) ?_<;>conv=>whnf)|(refine Gd.mk (fun h=>?_)<;>(try simp [etas,elDef,-List.getD_eq_getElem?_getD] at h)<;>conv=>whnf)|(refine And.intro ?_ ?_<;>conv=>whnf)|exact True.intro|(intro;conv=>whnf)
  · exact leafV hK9 (by rw [if_neg (by grind)]; rfl)
  · exact leafV hK9 (by rw [if_pos (by grind)]; rfl)
theorem s24d : (CtrOK Tryd.prog 24 (.gen .ow C24d) ∧ Callable Tryd.prog 24) := by
  refine gen_okD (E := E24d) (mkE_cons s21 (mkE_nil tab_ok)) mix (O := O24d) (D := D24d) (own := .ow) Tryd.func24 rfl (by rfl) (by kernel_rfl) (fun args K h hbd => ?_)
  unfold D24d at h; split at h
  case h_2 => exact h.elim
  exact ⟨Nat.le_of_ble_eq_true rfl, a24d _ _ _ _ _ _ (by exact hbd) _ h⟩
noncomputable def c9d (n : Nd) (p : List Bs) (x : Nd) (K : AV → List AV → Prop) : Prop :=
    K (optND (addNodeM n p x)) []
noncomputable def D9d : List AV → (AV → List AV → Prop) → Prop
  | [.st [.int .i64 n_0, .int .i64 n_1, .str n_2, .ps .str n_3, .ps .node n_4], .ps .str p, .st [.int .i64 x_0, .int .i64 x_1, .str x_2, .ps .str x_3, .ps .node x_4]], K => c9d ⟨n_0, n_1, n_2, n_3, n_4⟩ p ⟨x_0, x_1, x_2, x_3, x_4⟩ K
  | _, _ => False
noncomputable def C9d (args : List AV) (K : AV → List AV → Prop) : Prop := D9d (fixAs args) K
noncomputable def E9d : Ctx := mkE tab [(21, .pure F21), (22, .pure F22), (23, .gen .ow C23d), (24, .gen .ow C24d), (25, .gen .ow C25e)]
noncomputable def O9d : Nat → List DI := ordL [(6, [.q 0, .q 1, .q 2, .q 3, .q 4, .l 5 [], .q 6, .q 7, .l 8 [], .q 9, .q 10, .l 11 [], .q 12])]
theorem a9d (n : Nd) (p : List Bs) (x : Nd) (hb : BdAs [.st (ndC n), .ps .str p, .st (ndC x)]) (K : AV → List AV → Prop) (h : c9d n p x K) : abodyD E9d O9d .ow Tryd.f9 (Tryd.f9.body.getD .skip) [.st (ndC n), .ps .str p, .st (ndC x)] (fun r rs => K (fixR r) (fixAs rs)) := by
  simp only [BdAs, BdA, BdL, BdC, MX, ndC, shC, itC, stC, opC, chC, nwC, flC, rqC, rsC, enc, List.cons_append, List.nil_append, and_true, true_and] at hb
  unfold c9d at h
  have hK9 := h
  have h1 := fun h => validM_ok (n := n) h
  have h2 := fun h => (validM_ok (n := x) h).sm
  have el := front_eq p
  have e6 : p ≠ [] → 0 < p.length := fun h => List.length_pos_iff.2 h
  have e5 : p ≠ [] → ((p.length : Int) - 1).toNat = p.length - 1 := fun h => by have := List.length_pos_iff.2 h; omega
  conv => whnf
  repeat' first|(refine Cnd.mk (fun h=>?_) (fun h=>?_)<;>(try simp [etas,elDef,-List.getD_eq_getElem?_getD] at h)<;>conv=>whnf)|(refine Obl.mk (by first|omega|rfl|exact inK_byte _|(simp only [inK,Int.toNat_natCast,etas,elDef,m23d,m25e]<;>first|omega|grind)|grind [inK,m23d,m25e]) ?_<;>conv=>whnf)|(refine OblG.mk (by ((conv=>whnf);(repeat (first|(refine Bx.mk ?_)|(intro h;(try simp [etas,elDef,-List.getD_eq_getElem?_getD] at h);conv=>whnf)));(first|omega|rfl|exact inK_byte _|(simp only [inK,Int.toNat_natCast,etas,elDef,m23d,m25e]<;>first|omega|grind)|grind [inK,m23d,m25e]))) ?_<;>conv=>whnf)|(refine Gd.mk (fun h=>?_)<;>(try simp [etas,elDef,-List.getD_eq_getElem?_getD] at h)<;>conv=>whnf)|(refine And.intro ?_ ?_<;>conv=>whnf)|exact True.intro|(intro;conv=>whnf)
  · exact leafV hK9 (by unfold addNodeM; rw [if_neg (by rcases h with (h | h) | h <;> simp [h])]; rfl)
  · rename_i h5
    subst h
    exact leafV hK9 (by unfold addNodeM addAtM; rw [if_pos (by simp [h5.1.1, h5.1.2, h5.2]), if_pos rfl]; simp only [checkedM, h5.2, if_true, optND, Option.getD_some, Option.isSome_some, nd_eta]; rfl)
  · rename_i h5
    refine leafV hK9 ?_
    have e7 : addNodeM n p x = checkedM (addAtM n p x) := by unfold addNodeM; rw [if_pos (by simp [h5.1.1, h5.1.2, h5.2])]
    rw [e7, checked_if, add_chg h]
    simp only [nd_eta, elDef, el, List.getD_cons_zero, Int.toNat_zero, e5 h, List.drop_zero, lastD]
    rfl
theorem s9d : (CtrOK Tryd.prog 9 (.gen .ow C9d) ∧ Callable Tryd.prog 9) := by
  refine gen_okD (E := E9d) (mkE_cons s21 (mkE_cons s22 (mkE_cons s23d (mkE_cons s24d (mkE_cons s25e (mkE_nil tab_ok)))))) mix (O := O9d) (D := D9d) (own := .ow) Tryd.func9 rfl (by rfl) (by kernel_rfl) (fun args K h hbd => ?_)
  unfold D9d at h; split at h
  case h_2 => exact h.elim
  exact ⟨Nat.le_of_ble_eq_true rfl, a9d ⟨_, _, _, _, _⟩ _ ⟨_, _, _, _, _⟩ (by exact hbd) _ h⟩
noncomputable def c9r (n1 : Int) (n2 : Int) (n3 : Bs) (n4 : List Bs) (n5 : List Nd) (p : List Bs) (x1 : Int) (x2 : Int) (x3 : Bs) (x4 : List Bs) (x5 : List Nd) (K : AV → List AV → Prop) : Prop :=
    K (optNW (addNodeM ⟨n1, n2, n3, n4, n5⟩ p ⟨x1, x2, x3, x4, x5⟩)) [.own .str n4, .wr .node n5, .own .str p, .own .str x4, .wr .node x5]
noncomputable def C9r : List AV → (AV → List AV → Prop) → Prop
  | [.tup [.st [.int .i64 n1, .int .i64 n2, .str n3, .own .str n4, .wr .node n5]], .tup [.own .str p], .tup [.st [.int .i64 x1, .int .i64 x2, .str x3, .own .str x4, .wr .node x5]]], K => c9r n1 n2 n3 n4 n5 p x1 x2 x3 x4 x5 K
  | _, _ => False
theorem s9r : CtrOK Tryd.prog 9 (.gen .ln C9r) ∧ Callable Tryd.prog 9 := by
  refine ⟨Snd.of (Snd.lend s9d.1) fun vs K h => ?_, s9d.2⟩
  unfold C9r at h
  split at h
  case h_2 => exact h.elim
  unfold c9r at h
  exact ⟨rfl, rfl, rfl, h⟩
end Go.Rs

