import Derived.Test.YtgonjmlpomfihaaKT
import Derived.Test.YtgonjmlpomfihaaKN
import Derived.Test.YtgonjmlpomfihaaKI
import Derived.Test.YtgonjmlpomfihaaKC
import Derived.Test.YtgonjmlpomfihaaEK
import Derived.Test.YtgonjmlpomfihaaEF
set_option linter.all false
set_option linter.unusedSimpArgs false
set_option linter.unusedVariables false
namespace Go.Rs
open Go.Proofs Go.RowKit
set_option maxRecDepth 100000
def chD (x : Chg) : List AV := .str x.name :: .bool x.gone :: ndD x.node
def ndW (n : Nd) : List AV := [.int .i64 n.kind, .int .i64 n.num, .str n.text, .own .str n.names, .wr .node n.kids]
def chW (x : Chg) : List AV := .str x.name :: .bool x.gone :: ndW x.node
def stW (s : Sto) : List AV := [.wr .item s.items, .int .i64 s.clock]
def optSW (o : Option Sto) : AV := .tup [.st (stW (o.getD ⟨[], 0⟩)), .bool o.isSome]
noncomputable def c65d (x : It) (K : AV → List AV → Prop) : Prop :=
    Obl (smN x.node) (K (.st (itD x)) [])
noncomputable def D65d : List AV → (AV → List AV → Prop) → Prop
  | [.st [.str x_0, .int .i64 x_1, .int .i64 x_2_0, .int .i64 x_2_1, .str x_2_2, .ps .str x_2_3, .ps .node x_2_4]], K => c65d ⟨x_0, x_1, ⟨x_2_0, x_2_1, x_2_2, x_2_3, x_2_4⟩⟩ K
  | _, _ => False
noncomputable def C65d (args : List AV) (K : AV → List AV → Prop) : Prop := D65d (fixAs args) K
noncomputable def E65d : Ctx := mkE tab [(47, .gen .ow C47d)]
noncomputable def O65d : Nat → List DI := ordL []
theorem a65d (x : It) (hb : BdAs [.st (itC x)]) (K : AV → List AV → Prop) (h : c65d x K) : abodyD E65d O65d .ow Try.f65 (Try.f65.body.getD .skip) [.st (itC x)] (fun r rs => K (fixR r) (fixAs rs)) := by
  simp only [BdAs, BdA, BdL, BdC, MX, ndC, shC, itC, stC, opC, chC, nwC, flC, rqC, rsC, enc, List.cons_append, List.nil_append, and_true, true_and] at hb
  unfold c65d at h
  obtain ⟨hs, hK⟩ := h
  conv => whnf
  repeat' first
    | (refine Cnd.mk (fun h => ?_) (fun h => ?_) <;> (try simp [etas, elDef, -List.getD_eq_getElem?_getD] at h) <;> conv => whnf)
    | (refine Obl.mk (by first | omega | rfl | exact inK_byte _ | (simp only [inK, Int.toNat_natCast, etas, elDef, m47d] <;> first | omega | grind) | grind [inK, m47d]) ?_ <;> conv => whnf)
    | (refine OblG.mk (by conv => whnf
                          repeat (first | (refine Bx.mk ?_) | (intro h; (try simp [etas, elDef, -List.getD_eq_getElem?_getD] at h); conv => whnf))
                          first | omega | rfl | exact inK_byte _ | (simp only [inK, Int.toNat_natCast, etas, elDef, m47d] <;> first | omega | grind) | grind [inK, m47d]) ?_ <;> conv => whnf)
    | (refine Gd.mk (fun h => ?_) <;> (try simp [etas, elDef, -List.getD_eq_getElem?_getD] at h) <;> conv => whnf)
    | (refine And.intro ?_ ?_ <;> conv => whnf)
    | exact True.intro
    | (intro; conv => whnf)
  all_goals exact leafV hK rfl
theorem s65d : (CtrOK Try.prog 65 (.gen .ow C65d) ∧ Callable Try.prog 65) := by
  refine gen_okD (E := E65d) (mkE_cons s47d (mkE_nil tab_ok)) mix (O := O65d) (D := D65d) (own := .ow) Try.func65 rfl (by rfl) (by kernel_rfl) (fun args K h hbd => ?_)
  unfold D65d at h; split at h
  case h_2 => exact h.elim
  exact ⟨Nat.le_of_ble_eq_true rfl, a65d ⟨_, _, ⟨_, _, _, _, _⟩⟩ (by exact hbd) _ h⟩
noncomputable def c27d (x : Chg) (K : AV → List AV → Prop) : Prop :=
    Obl (smN x.node) (K (.st (chD x)) [])
noncomputable def D27d : List AV → (AV → List AV → Prop) → Prop
  | [.st [.str x_0, .bool x_1, .int .i64 x_2_0, .int .i64 x_2_1, .str x_2_2, .ps .str x_2_3, .ps .node x_2_4]], K => c27d ⟨x_0, x_1, ⟨x_2_0, x_2_1, x_2_2, x_2_3, x_2_4⟩⟩ K
  | _, _ => False
noncomputable def C27d (args : List AV) (K : AV → List AV → Prop) : Prop := D27d (fixAs args) K
noncomputable def E27d : Ctx := mkE tab [(47, .gen .ow C47d)]
noncomputable def O27d : Nat → List DI := ordL []
theorem a27d (x : Chg) (hb : BdAs [.st (chC x)]) (K : AV → List AV → Prop) (h : c27d x K) : abodyD E27d O27d .ow Try.f27 (Try.f27.body.getD .skip) [.st (chC x)] (fun r rs => K (fixR r) (fixAs rs)) := by
  simp only [BdAs, BdA, BdL, BdC, MX, ndC, shC, itC, stC, opC, chC, nwC, flC, rqC, rsC, enc, List.cons_append, List.nil_append, and_true, true_and] at hb
  unfold c27d at h
  obtain ⟨hs, hK⟩ := h
  conv => whnf
  repeat' first
    | (refine Cnd.mk (fun h => ?_) (fun h => ?_) <;> (try simp [etas, elDef, -List.getD_eq_getElem?_getD] at h) <;> conv => whnf)
    | (refine Obl.mk (by first | omega | rfl | exact inK_byte _ | (simp only [inK, Int.toNat_natCast, etas, elDef, m47d] <;> first | omega | grind) | grind [inK, m47d]) ?_ <;> conv => whnf)
    | (refine OblG.mk (by conv => whnf
                          repeat (first | (refine Bx.mk ?_) | (intro h; (try simp [etas, elDef, -List.getD_eq_getElem?_getD] at h); conv => whnf))
                          first | omega | rfl | exact inK_byte _ | (simp only [inK, Int.toNat_natCast, etas, elDef, m47d] <;> first | omega | grind) | grind [inK, m47d]) ?_ <;> conv => whnf)
    | (refine Gd.mk (fun h => ?_) <;> (try simp [etas, elDef, -List.getD_eq_getElem?_getD] at h) <;> conv => whnf)
    | (refine And.intro ?_ ?_ <;> conv => whnf)
    | exact True.intro
    | (intro; conv => whnf)
  all_goals exact leafV hK rfl
theorem s27d : (CtrOK Try.prog 27 (.gen .ow C27d) ∧ Callable Try.prog 27) := by
  refine gen_okD (E := E27d) (mkE_cons s47d (mkE_nil tab_ok)) mix (O := O27d) (D := D27d) (own := .ow) Try.func27 rfl (by rfl) (by kernel_rfl) (fun args K h hbd => ?_)
  unfold D27d at h; split at h
  case h_2 => exact h.elim
  exact ⟨Nat.le_of_ble_eq_true rfl, a27d ⟨_, _, ⟨_, _, _, _, _⟩⟩ (by exact hbd) _ h⟩
noncomputable def c46d (l : List It) (K : AV → List AV → Prop) : Prop :=
    Obl (smIs l) (K (.dp .item l) [])
noncomputable def D46d : List AV → (AV → List AV → Prop) → Prop
  | [.ps .item l], K => c46d l K
  | _, _ => False
noncomputable def C46d (args : List AV) (K : AV → List AV → Prop) : Prop := D46d (fixAs args) K
noncomputable def E46d : Ctx := mkE tab [(65, .gen .ow C65d)]
noncomputable def O46d : Nat → List DI := ordL []
theorem a46d (l : List It) (hb : BdAs [.ps .item l]) (K : AV → List AV → Prop) (h : c46d l K) : abodyD E46d O46d .ow Try.f46 (Try.f46.body.getD .skip) [.ps .item l] (fun r rs => K (fixR r) (fixAs rs)) := by
  simp only [BdAs, BdA, BdL, BdC, MX, ndC, shC, itC, stC, opC, chC, nwC, flC, rqC, rsC, enc, List.cons_append, List.nil_append, and_true, true_and] at hb
  unfold c46d at h
  obtain ⟨hs, hK⟩ := h
  have hkid : ∀ j, j < l.length → smN (l.getD j default).node := fun j hj => hs.kid hj
  have h3 := hs.1
  conv => whnf
  repeat' first
    | (refine Cnd.mk (fun h => ?_) (fun h => ?_) <;> (try simp [etas, elDef, -List.getD_eq_getElem?_getD] at h) <;> conv => whnf)
    | (refine Obl.mk (by first | omega | rfl | exact inK_byte _ | (simp only [inK, Int.toNat_natCast, etas, elDef] <;> first | omega | grind) | grind [inK]) ?_ <;> conv => whnf)
    | (refine OblG.mk (by conv => whnf
                          repeat (first | (refine Bx.mk ?_) | (intro h; (try simp [etas, elDef, -List.getD_eq_getElem?_getD] at h); conv => whnf))
                          first | omega | rfl | exact inK_byte _ | (simp only [inK, Int.toNat_natCast, etas, elDef] <;> first | omega | grind) | grind [inK]) ?_ <;> conv => whnf)
    | (refine Gd.mk (fun h => ?_) <;> (try simp [etas, elDef, -List.getD_eq_getElem?_getD] at h) <;> conv => whnf)
    | (refine And.intro ?_ ?_ <;> conv => whnf)
    | exact True.intro
    | (intro; conv => whnf)
  refine aloop_intro Nat (fun k => k ≤ l.length ∧ True) (fun k => l.length - k) (fun k => [(4, .int .i64 k)]) (fun k => [(7, .tree .item (fillD default l k))]) [] 0 [] [] ?_ ?_ (by exact sgOk_of (by rfl)) ?_
  · first | (simp; done) | (simp; assumption)
  · (conv => whnf); (repeat' (first | exact trivial | rfl | (refine nilEq ?_; first | rfl | (simp only [*]; done) | (simp [*]; done) | grind) | apply And.intro | ((first | refine intEq ?_ | refine boolEq ?_ | refine strEq ?_ | refine psEq ?_ | refine nilEq ?_ | refine arrEq ?_); (try simp only [Int.toNat_natCast, etas, elDef]); first | done | omega | grind | (simp only [*]; done) | (simp [*]; done)))); (all_goals (conv => whnf)); (repeat' (first | exact trivial | rfl | (refine nilEq ?_; first | rfl | (simp only [*]; done) | (simp [*]; done) | grind) | apply And.intro | ((first | refine intEq ?_ | refine boolEq ?_ | refine strEq ?_ | refine psEq ?_ | refine nilEq ?_ | refine arrEq ?_); (try simp only [Int.toNat_natCast, etas, elDef]); first | done | omega | grind | (simp only [*]; done) | (simp [*]; done)) | ((try simp only [Int.toNat_natCast, etas, elDef]); first | done | omega | grind | (simp only [*]; done) | (simp [*]; done))))
  rintro i ⟨hi, hj⟩
  conv => whnf
  have hl := fillD_len default l hi
  have hset := fun h => fillD_set default l (k := i) h
  repeat' first
    | (refine Cnd.mk (fun h => ?_) (fun h => ?_) <;> (try simp [etas, elDef, -List.getD_eq_getElem?_getD] at h) <;> conv => whnf)
    | (refine Obl.mk (by first | omega | rfl | exact inK_byte _ | (simp only [inK, Int.toNat_natCast, etas, elDef] <;> first | omega | grind) | grind [inK]) ?_ <;> conv => whnf)
    | (refine OblG.mk (by conv => whnf
                          repeat (first | (refine Bx.mk ?_) | (intro h; (try simp [etas, elDef, -List.getD_eq_getElem?_getD] at h); conv => whnf))
                          first | omega | rfl | exact inK_byte _ | (simp only [inK, Int.toNat_natCast, etas, elDef] <;> first | omega | grind) | grind [inK]) ?_ <;> conv => whnf)
    | (refine Gd.mk (fun h => ?_) <;> (try simp [etas, elDef, -List.getD_eq_getElem?_getD] at h) <;> conv => whnf)
    | (refine And.intro ?_ ?_ <;> conv => whnf)
    | exact True.intro
    | (intro; conv => whnf)
  · exact ⟨i + 1, [], [], ⟨by omega, by grind⟩, by omega, by (conv => whnf); (repeat' (first | exact trivial | rfl | (refine nilEq ?_; first | rfl | (simp only [*]; done) | (simp [*]; done) | grind) | apply And.intro | ((first | refine intEq ?_ | refine boolEq ?_ | refine strEq ?_ | refine psEq ?_ | refine nilEq ?_ | refine arrEq ?_); (try simp only [Int.toNat_natCast, etas, elDef]); first | done | omega | grind | (simp only [*]; done) | (simp [*]; done)))); (all_goals (conv => whnf)); (repeat' (first | exact trivial | rfl | (refine nilEq ?_; first | rfl | (simp only [*]; done) | (simp [*]; done) | grind) | apply And.intro | ((first | refine intEq ?_ | refine boolEq ?_ | refine strEq ?_ | refine psEq ?_ | refine nilEq ?_ | refine arrEq ?_); (try simp only [Int.toNat_natCast, etas, elDef]); first | done | omega | grind | (simp only [*]; done) | (simp [*]; done)) | ((try simp only [Int.toNat_natCast, etas, elDef]); first | done | omega | grind | (simp only [*]; done) | (simp [*]; done)))), (by exact sgOk_of (by rfl))⟩
  · exact leafV hK (by simp_all [fixR, fixV, fixL, fix1, deepE, fillD_all default l ‹l.length ≤ i›])
theorem s46d : (CtrOK Try.prog 46 (.gen .ow C46d) ∧ Callable Try.prog 46) := by
  refine gen_okD (E := E46d) (mkE_cons s65d (mkE_nil tab_ok)) mix (O := O46d) (D := D46d) (own := .ow) Try.func46 rfl (by rfl) (by kernel_rfl) (fun args K h hbd => ?_)
  unfold D46d at h; split at h
  case h_2 => exact h.elim
  exact ⟨Nat.le_of_ble_eq_true rfl, a46d _ (by exact hbd) _ h⟩
noncomputable def c9d (l : List Chg) (K : AV → List AV → Prop) : Prop :=
    Obl (smCs l) (K (.dp .chg l) [])
noncomputable def D9d : List AV → (AV → List AV → Prop) → Prop
  | [.ps .chg l], K => c9d l K
  | _, _ => False
noncomputable def C9d (args : List AV) (K : AV → List AV → Prop) : Prop := D9d (fixAs args) K
noncomputable def E9d : Ctx := mkE tab [(27, .gen .ow C27d)]
noncomputable def O9d : Nat → List DI := ordL []
theorem a9d (l : List Chg) (hb : BdAs [.ps .chg l]) (K : AV → List AV → Prop) (h : c9d l K) : abodyD E9d O9d .ow Try.f9 (Try.f9.body.getD .skip) [.ps .chg l] (fun r rs => K (fixR r) (fixAs rs)) := by
  simp only [BdAs, BdA, BdL, BdC, MX, ndC, shC, itC, stC, opC, chC, nwC, flC, rqC, rsC, enc, List.cons_append, List.nil_append, and_true, true_and] at hb
  unfold c9d at h
  obtain ⟨hs, hK⟩ := h
  have hkid : ∀ j, j < l.length → smN (l.getD j default).node := fun j hj => hs.kid hj
  have h3 := hs.1
  conv => whnf
  repeat' first
    | (refine Cnd.mk (fun h => ?_) (fun h => ?_) <;> (try simp [etas, elDef, -List.getD_eq_getElem?_getD] at h) <;> conv => whnf)
    | (refine Obl.mk (by first | omega | rfl | exact inK_byte _ | (simp only [inK, Int.toNat_natCast, etas, elDef] <;> first | omega | grind) | grind [inK]) ?_ <;> conv => whnf)
    | (refine OblG.mk (by conv => whnf
                          repeat (first | (refine Bx.mk ?_) | (intro h; (try simp [etas, elDef, -List.getD_eq_getElem?_getD] at h); conv => whnf))
                          first | omega | rfl | exact inK_byte _ | (simp only [inK, Int.toNat_natCast, etas, elDef] <;> first | omega | grind) | grind [inK]) ?_ <;> conv => whnf)
    | (refine Gd.mk (fun h => ?_) <;> (try simp [etas, elDef, -List.getD_eq_getElem?_getD] at h) <;> conv => whnf)
    | (refine And.intro ?_ ?_ <;> conv => whnf)
    | exact True.intro
    | (intro; conv => whnf)
  refine aloop_intro Nat (fun k => k ≤ l.length ∧ True) (fun k => l.length - k) (fun k => [(4, .int .i64 k)]) (fun k => [(7, .tree .chg (fillD default l k))]) [] 0 [] [] ?_ ?_ (by exact sgOk_of (by rfl)) ?_
  · first | (simp; done) | (simp; assumption)
  · (conv => whnf); (repeat' (first | exact trivial | rfl | (refine nilEq ?_; first | rfl | (simp only [*]; done) | (simp [*]; done) | grind) | apply And.intro | ((first | refine intEq ?_ | refine boolEq ?_ | refine strEq ?_ | refine psEq ?_ | refine nilEq ?_ | refine arrEq ?_); (try simp only [Int.toNat_natCast, etas, elDef]); first | done | omega | grind | (simp only [*]; done) | (simp [*]; done)))); (all_goals (conv => whnf)); (repeat' (first | exact trivial | rfl | (refine nilEq ?_; first | rfl | (simp only [*]; done) | (simp [*]; done) | grind) | apply And.intro | ((first | refine intEq ?_ | refine boolEq ?_ | refine strEq ?_ | refine psEq ?_ | refine nilEq ?_ | refine arrEq ?_); (try simp only [Int.toNat_natCast, etas, elDef]); first | done | omega | grind | (simp only [*]; done) | (simp [*]; done)) | ((try simp only [Int.toNat_natCast, etas, elDef]); first | done | omega | grind | (simp only [*]; done) | (simp [*]; done))))
  rintro i ⟨hi, hj⟩
  conv => whnf
  have hl := fillD_len default l hi
  have hset := fun h => fillD_set default l (k := i) h
  repeat' first
    | (refine Cnd.mk (fun h => ?_) (fun h => ?_) <;> (try simp [etas, elDef, -List.getD_eq_getElem?_getD] at h) <;> conv => whnf)
    | (refine Obl.mk (by first | omega | rfl | exact inK_byte _ | (simp only [inK, Int.toNat_natCast, etas, elDef] <;> first | omega | grind) | grind [inK]) ?_ <;> conv => whnf)
    | (refine OblG.mk (by conv => whnf
                          repeat (first | (refine Bx.mk ?_) | (intro h; (try simp [etas, elDef, -List.getD_eq_getElem?_getD] at h); conv => whnf))
                          first | omega | rfl | exact inK_byte _ | (simp only [inK, Int.toNat_natCast, etas, elDef] <;> first | omega | grind) | grind [inK]) ?_ <;> conv => whnf)
    | (refine Gd.mk (fun h => ?_) <;> (try simp [etas, elDef, -List.getD_eq_getElem?_getD] at h) <;> conv => whnf)
    | (refine And.intro ?_ ?_ <;> conv => whnf)
    | exact True.intro
    | (intro; conv => whnf)
  · exact ⟨i + 1, [], [], ⟨by omega, by grind⟩, by omega, by (conv => whnf); (repeat' (first | exact trivial | rfl | (refine nilEq ?_; first | rfl | (simp only [*]; done) | (simp [*]; done) | grind) | apply And.intro | ((first | refine intEq ?_ | refine boolEq ?_ | refine strEq ?_ | refine psEq ?_ | refine nilEq ?_ | refine arrEq ?_); (try simp only [Int.toNat_natCast, etas, elDef]); first | done | omega | grind | (simp only [*]; done) | (simp [*]; done)))); (all_goals (conv => whnf)); (repeat' (first | exact trivial | rfl | (refine nilEq ?_; first | rfl | (simp only [*]; done) | (simp [*]; done) | grind) | apply And.intro | ((first | refine intEq ?_ | refine boolEq ?_ | refine strEq ?_ | refine psEq ?_ | refine nilEq ?_ | refine arrEq ?_); (try simp only [Int.toNat_natCast, etas, elDef]); first | done | omega | grind | (simp only [*]; done) | (simp [*]; done)) | ((try simp only [Int.toNat_natCast, etas, elDef]); first | done | omega | grind | (simp only [*]; done) | (simp [*]; done)))), (by exact sgOk_of (by rfl))⟩
  · exact leafV hK (by simp_all [fixR, fixV, fixL, fix1, deepE, fillD_all default l ‹l.length ≤ i›])
theorem s9d : (CtrOK Try.prog 9 (.gen .ow C9d) ∧ Callable Try.prog 9) := by
  refine gen_okD (E := E9d) (mkE_cons s27d (mkE_nil tab_ok)) mix (O := O9d) (D := D9d) (own := .ow) Try.func9 rfl (by rfl) (by kernel_rfl) (fun args K h hbd => ?_)
  unfold D9d at h; split at h
  case h_2 => exact h.elim
  exact ⟨Nat.le_of_ble_eq_true rfl, a9d _ (by exact hbd) _ h⟩
noncomputable def c26d (s : Sto) (K : AV → List AV → Prop) : Prop :=
    Obl (smIs s.items) (K (.st [.dp .item s.items, .int .i64 s.clock]) [])
noncomputable def D26d : List AV → (AV → List AV → Prop) → Prop
  | [.st [.ps .item s_0, .int .i64 s_1]], K => c26d ⟨s_0, s_1⟩ K
  | _, _ => False
noncomputable def C26d (args : List AV) (K : AV → List AV → Prop) : Prop := D26d (fixAs args) K
noncomputable def E26d : Ctx := mkE tab [(46, .gen .ow C46d)]
noncomputable def O26d : Nat → List DI := ordL []
theorem a26d (s : Sto) (hb : BdAs [.st (stC s)]) (K : AV → List AV → Prop) (h : c26d s K) : abodyD E26d O26d .ow Try.f26 (Try.f26.body.getD .skip) [.st (stC s)] (fun r rs => K (fixR r) (fixAs rs)) := by
  simp only [BdAs, BdA, BdL, BdC, MX, ndC, shC, itC, stC, opC, chC, nwC, flC, rqC, rsC, enc, List.cons_append, List.nil_append, and_true, true_and] at hb
  unfold c26d at h
  obtain ⟨hs, hK⟩ := h
  conv => whnf
  repeat' first
    | (refine Cnd.mk (fun h => ?_) (fun h => ?_) <;> (try simp [etas, elDef, -List.getD_eq_getElem?_getD] at h) <;> conv => whnf)
    | (refine Obl.mk (by first | omega | rfl | exact inK_byte _ | (simp only [inK, Int.toNat_natCast, etas, elDef] <;> first | omega | grind) | grind [inK]) ?_ <;> conv => whnf)
    | (refine OblG.mk (by conv => whnf
                          repeat (first | (refine Bx.mk ?_) | (intro h; (try simp [etas, elDef, -List.getD_eq_getElem?_getD] at h); conv => whnf))
                          first | omega | rfl | exact inK_byte _ | (simp only [inK, Int.toNat_natCast, etas, elDef] <;> first | omega | grind) | grind [inK]) ?_ <;> conv => whnf)
    | (refine Gd.mk (fun h => ?_) <;> (try simp [etas, elDef, -List.getD_eq_getElem?_getD] at h) <;> conv => whnf)
    | (refine And.intro ?_ ?_ <;> conv => whnf)
    | exact True.intro
    | (intro; conv => whnf)
  all_goals exact leafV hK rfl
theorem s26d : (CtrOK Try.prog 26 (.gen .ow C26d) ∧ Callable Try.prog 26) := by
  refine gen_okD (E := E26d) (mkE_cons s46d (mkE_nil tab_ok)) mix (O := O26d) (D := D26d) (own := .ow) Try.func26 rfl (by rfl) (by kernel_rfl) (fun args K h hbd => ?_)
  unfold D26d at h; split at h
  case h_2 => exact h.elim
  exact ⟨Nat.le_of_ble_eq_true rfl, a26d ⟨_, _⟩ (by exact hbd) _ h⟩
noncomputable def c27r (x : Chg) (K : AV → List AV → Prop) : Prop :=
    Obl (smN x.node) (K (.st (chW x)) [])
noncomputable def C27r : List AV → (AV → List AV → Prop) → Prop
  | [.st [.str x_0, .bool x_1, .int .i64 x_2_0, .int .i64 x_2_1, .str x_2_2, .ps .str x_2_3, .ps .node x_2_4]], K => c27r ⟨x_0, x_1, ⟨x_2_0, x_2_1, x_2_2, x_2_3, x_2_4⟩⟩ K
  | _, _ => False
theorem s27r : CtrOK Try.prog 27 (.gen .ow C27r) ∧ Callable Try.prog 27 := by
  refine ⟨Snd.of (Snd.lend s27d.1) fun vs K h => ?_, s27d.2⟩
  unfold C27r at h
  split at h
  case h_2 => exact h.elim
  unfold c27r at h
  exact ⟨rfl, h.1, rfl, rfl, h.2⟩
noncomputable def c9r (l : List Chg) (K : AV → List AV → Prop) : Prop :=
    Obl (smCs l) (K (.wr .chg l) [])
noncomputable def C9r : List AV → (AV → List AV → Prop) → Prop
  | [.ps .chg l], K => c9r l K
  | _, _ => False
theorem s9r : CtrOK Try.prog 9 (.gen .ow C9r) ∧ Callable Try.prog 9 := by
  refine ⟨Snd.of (Snd.lend s9d.1) fun vs K h => ?_, s9d.2⟩
  unfold C9r at h
  split at h
  case h_2 => exact h.elim
  unfold c9r at h
  exact ⟨rfl, h.1, rfl, rfl, h.2⟩
noncomputable def c26r (s : Sto) (K : AV → List AV → Prop) : Prop :=
    Obl (smIs s.items) (K (.st (stW s)) [])
noncomputable def C26r : List AV → (AV → List AV → Prop) → Prop
  | [.st [.ps .item s_0, .int .i64 s_1]], K => c26r ⟨s_0, s_1⟩ K
  | _, _ => False
theorem s26r : CtrOK Try.prog 26 (.gen .ow C26r) ∧ Callable Try.prog 26 := by
  refine ⟨Snd.of (Snd.lend s26d.1) fun vs K h => ?_, s26d.2⟩
  unfold C26r at h
  split at h
  case h_2 => exact h.elim
  unfold c26r at h
  exact ⟨rfl, h.1, rfl, rfl, h.2⟩
noncomputable def c14 (l : List Int) (m : Int) (K : AV → List AV → Prop) : Prop :=
    Obl (0 ≤ m ∧ m + (l.length : Int) ≤ 4611686018427387904) (K (.int .i64 (m + (l.length : Int))) [.own .i64 (mkI l m)])
noncomputable def C14 : List AV → (AV → List AV → Prop) → Prop
  | [.tup [.own .i64 l], .int .i64 m], K => c14 l m K
  | _, _ => False
theorem s14 : CtrOK Try.prog 14 (.gen .ln C14) ∧ Callable Try.prog 14 := by
  refine ⟨fun vs K h => ?_, callable Try.func14 (by kernel_rfl) (by kernel_rfl)⟩
  unfold C14 at h
  split at h
  case h_2 => exact h.elim
  unfold c14 at h
  obtain ⟨h1, h2⟩ := h
  exact fun w γ S xs hi hn hf ht hS => snd_markO rfl h2 (fun w x bs hd hn ht htb => kmarkIntS _ _ w x bs hd hn ht htb h1.1 h1.2) hi hn hf ht hS
noncomputable def c33 (l : List Bs) (m : Int) (K : AV → List AV → Prop) : Prop :=
    Obl (0 ≤ m ∧ m + (l.length : Int) ≤ 4611686018427387904) (K (.int .i64 (m + (l.length : Int))) [.own .str (mkS l m)])
noncomputable def C33 : List AV → (AV → List AV → Prop) → Prop
  | [.tup [.own .str l], .int .i64 m], K => c33 l m K
  | _, _ => False
theorem s33 : CtrOK Try.prog 33 (.gen .ln C33) ∧ Callable Try.prog 33 := by
  refine ⟨fun vs K h => ?_, callable Try.func33 (by kernel_rfl) (by kernel_rfl)⟩
  unfold C33 at h
  split at h
  case h_2 => exact h.elim
  unfold c33 at h
  obtain ⟨h1, h2⟩ := h
  exact fun w γ S xs hi hn hf ht hS => snd_markO rfl h2 (fun w x bs hd hn ht htb => kmarkStringS _ _ w x bs hd hn ht htb h1.1 h1.2) hi hn hf ht hS
noncomputable def c34 (l : List Nd) (m : Int) (K : AV → List AV → Prop) : Prop :=
    Obl (0 ≤ m ∧ m + ((totNs l : Nat) : Int) ≤ 4611686018427387904) (K (.int .i64 (m + ((totNs l : Nat) : Int))) [.wr .node (mkNs l m)])
noncomputable def C34 : List AV → (AV → List AV → Prop) → Prop
  | [.tup [.wr .node l], .int .i64 m], K => c34 l m K
  | _, _ => False
theorem s34 : CtrOK Try.prog 34 (.gen .ln C34) ∧ Callable Try.prog 34 := by
  refine ⟨fun vs K h => ?_, callable Try.func34 (by kernel_rfl) (by kernel_rfl)⟩
  unfold C34 at h
  split at h
  case h_2 => exact h.elim
  unfold c34 at h
  obtain ⟨h1, h2⟩ := h
  exact fun w γ S xs hi hn hf ht hS => snd_markW h2 (fun w x bs hd hn ht htb => kmarkNodeS _ _ w x bs hd hn ht htb h1.1 h1.2) hi hn hf ht hS
noncomputable def c38 (l : List It) (m : Int) (K : AV → List AV → Prop) : Prop :=
    Obl (0 ≤ m ∧ m + ((totIs l : Nat) : Int) ≤ 4611686018427387904) (K (.int .i64 (m + ((totIs l : Nat) : Int))) [.wr .item (mkIs l m)])
noncomputable def C38 : List AV → (AV → List AV → Prop) → Prop
  | [.tup [.wr .item l], .int .i64 m], K => c38 l m K
  | _, _ => False
theorem s38 : CtrOK Try.prog 38 (.gen .ln C38) ∧ Callable Try.prog 38 := by
  refine ⟨fun vs K h => ?_, callable Try.func38 (by kernel_rfl) (by kernel_rfl)⟩
  unfold C38 at h
  split at h
  case h_2 => exact h.elim
  unfold c38 at h
  obtain ⟨h1, h2⟩ := h
  exact fun w γ S xs hi hn hf ht hS => snd_markW h2 (fun w x bs hd hn ht htb => kmarkItemS _ _ w x bs hd hn ht htb h1.1 h1.2) hi hn hf ht hS
noncomputable def c13 (l : List Chg) (m : Int) (K : AV → List AV → Prop) : Prop :=
    Obl (0 ≤ m ∧ m + ((totCs l : Nat) : Int) ≤ 4611686018427387904) (K (.int .i64 (m + ((totCs l : Nat) : Int))) [.wr .chg (mkCs l m)])
noncomputable def C13 : List AV → (AV → List AV → Prop) → Prop
  | [.tup [.wr .chg l], .int .i64 m], K => c13 l m K
  | _, _ => False
theorem s13 : CtrOK Try.prog 13 (.gen .ln C13) ∧ Callable Try.prog 13 := by
  refine ⟨fun vs K h => ?_, callable Try.func13 (by kernel_rfl) (by kernel_rfl)⟩
  unfold C13 at h
  split at h
  case h_2 => exact h.elim
  unfold c13 at h
  obtain ⟨h1, h2⟩ := h
  exact fun w γ S xs hi hn hf ht hS => snd_markW h2 (fun w x bs hd hn ht htb => kmarkChangeS _ _ w x bs hd hn ht htb h1.1 h1.2) hi hn hf ht hS
noncomputable def c19 (l : List It) (c : Int) (m : Int) (K : AV → List AV → Prop) : Prop :=
    Obl (0 ≤ m ∧ m + ((totIs l : Nat) : Int) ≤ 4611686018427387904) (K (.int .i64 (m + ((totIs l : Nat) : Int))) [.wr .item (mkIs l m)])
noncomputable def C19 : List AV → (AV → List AV → Prop) → Prop
  | [.tup [.st [.wr .item l, .int .i64 c]], .int .i64 m], K => c19 l c m K
  | _, _ => False
noncomputable def E19 : Ctx := mkE tab [(38, .gen .ln C38)]
noncomputable def O19 : Nat → List DI := ordL []
theorem a19 (l : List It) (c : Int) (m : Int) (hb : BdAs [.tup [.st [.wr .item l, .int .i64 c]], .int .i64 m]) (K : AV → List AV → Prop) (h : c19 l c m K) : abody E19 O19 .ow Try.f19 (Try.f19.body.getD .skip) [.tup [.st [.wr .item l, .int .i64 c]], .int .i64 m] K := by
  simp only [BdAs, BdA, BdL, BdC, MX, ndC, shC, itC, stC, opC, chC, nwC, flC, rqC, rsC, enc, List.cons_append, List.nil_append, and_true, true_and] at hb
  unfold c19 at h
  obtain ⟨hs, hK⟩ := h
  conv => whnf
  repeat' first
    | (refine Cnd.mk (fun h => ?_) (fun h => ?_) <;> (try simp [etas, elDef, -List.getD_eq_getElem?_getD] at h) <;> conv => whnf)
    | (refine Obl.mk (by first | omega | rfl | exact inK_byte _ | (simp only [inK, Int.toNat_natCast, etas, elDef] <;> first | omega | grind) | grind [inK]) ?_ <;> conv => whnf)
    | (refine OblG.mk (by conv => whnf
                          repeat (first | (refine Bx.mk ?_) | (intro h; (try simp [etas, elDef, -List.getD_eq_getElem?_getD] at h); conv => whnf))
                          first | omega | rfl | exact inK_byte _ | (simp only [inK, Int.toNat_natCast, etas, elDef] <;> first | omega | grind) | grind [inK]) ?_ <;> conv => whnf)
    | (refine Gd.mk (fun h => ?_) <;> (try simp [etas, elDef, -List.getD_eq_getElem?_getD] at h) <;> conv => whnf)
    | (refine And.intro ?_ ?_ <;> conv => whnf)
    | exact True.intro
    | (intro; conv => whnf)
  all_goals exact leafV hK rfl
theorem s19 : (CtrOK Try.prog 19 (.gen .ln C19) ∧ Callable Try.prog 19) := by
  refine gen_ok (E := E19) (mkE_cons s38 (mkE_nil tab_ok)) mix (O := O19) (C := C19) (own := .ow) Try.func19 rfl (by rfl) (by kernel_rfl) (fun args K h hbd => ?_)
  unfold C19 at h; split at h
  case h_2 => exact h.elim
  exact ⟨Nat.le_of_ble_eq_true rfl, a19 _ _ _ (by exact hbd) _ h⟩
noncomputable def c53 (n1 : Int) (n2 : Int) (n3 : Bs) (n4 : List Bs) (n5 : List Nd) (m : Int) (K : AV → List AV → Prop) : Prop :=
    Obl (0 ≤ m ∧ m + (n4.length : Int) + ((totNs n5 : Nat) : Int) ≤ 4611686018427387904) (K (.int .i64 (m + (n4.length : Int) + ((totNs n5 : Nat) : Int))) [.own .str (mkS n4 m), .wr .node (mkNs n5 (m + (n4.length : Int)))])
noncomputable def C53 : List AV → (AV → List AV → Prop) → Prop
  | [.tup [.st [.int .i64 n1, .int .i64 n2, .str n3, .own .str n4, .wr .node n5]], .int .i64 m], K => c53 n1 n2 n3 n4 n5 m K
  | _, _ => False
noncomputable def E53 : Ctx := mkE tab [(33, .gen .ln C33), (34, .gen .ln C34)]
noncomputable def O53 : Nat → List DI := ordL []
theorem a53 (n1 : Int) (n2 : Int) (n3 : Bs) (n4 : List Bs) (n5 : List Nd) (m : Int) (hb : BdAs [.tup [.st [.int .i64 n1, .int .i64 n2, .str n3, .own .str n4, .wr .node n5]], .int .i64 m]) (K : AV → List AV → Prop) (h : c53 n1 n2 n3 n4 n5 m K) : abody E53 O53 .ow Try.f53 (Try.f53.body.getD .skip) [.tup [.st [.int .i64 n1, .int .i64 n2, .str n3, .own .str n4, .wr .node n5]], .int .i64 m] K := by
  simp only [BdAs, BdA, BdL, BdC, MX, ndC, shC, itC, stC, opC, chC, nwC, flC, rqC, rsC, enc, List.cons_append, List.nil_append, and_true, true_and] at hb
  unfold c53 at h
  obtain ⟨hs, hK⟩ := h
  conv => whnf
  repeat' first
    | (refine Cnd.mk (fun h => ?_) (fun h => ?_) <;> (try simp [etas, elDef, -List.getD_eq_getElem?_getD] at h) <;> conv => whnf)
    | (refine Obl.mk (by first | omega | rfl | exact inK_byte _ | (simp only [inK, Int.toNat_natCast, etas, elDef] <;> first | omega | grind) | grind [inK]) ?_ <;> conv => whnf)
    | (refine OblG.mk (by conv => whnf
                          repeat (first | (refine Bx.mk ?_) | (intro h; (try simp [etas, elDef, -List.getD_eq_getElem?_getD] at h); conv => whnf))
                          first | omega | rfl | exact inK_byte _ | (simp only [inK, Int.toNat_natCast, etas, elDef] <;> first | omega | grind) | grind [inK]) ?_ <;> conv => whnf)
    | (refine Gd.mk (fun h => ?_) <;> (try simp [etas, elDef, -List.getD_eq_getElem?_getD] at h) <;> conv => whnf)
    | (refine And.intro ?_ ?_ <;> conv => whnf)
    | exact True.intro
    | (intro; conv => whnf)
  all_goals exact leafV hK rfl
theorem s53 : (CtrOK Try.prog 53 (.gen .ln C53) ∧ Callable Try.prog 53) := by
  refine gen_ok (E := E53) (mkE_cons s33 (mkE_cons s34 (mkE_nil tab_ok))) mix (O := O53) (C := C53) (own := .ow) Try.func53 rfl (by rfl) (by kernel_rfl) (fun args K h hbd => ?_)
  unfold C53 at h; split at h
  case h_2 => exact h.elim
  exact ⟨Nat.le_of_ble_eq_true rfl, a53 _ _ _ _ _ _ (by exact hbd) _ h⟩
noncomputable def c30 (b : Bs) (g : Bool) (n1 : Int) (n2 : Int) (n3 : Bs) (n4 : List Bs) (n5 : List Nd) (m : Int) (K : AV → List AV → Prop) : Prop :=
    Obl (0 ≤ m ∧ m + (n4.length : Int) + ((totNs n5 : Nat) : Int) ≤ 4611686018427387904) (K (.int .i64 (m + (n4.length : Int) + ((totNs n5 : Nat) : Int))) [.own .str (mkS n4 m), .wr .node (mkNs n5 (m + (n4.length : Int)))])
noncomputable def C30 : List AV → (AV → List AV → Prop) → Prop
  | [.tup [.st [.str b, .bool g, .int .i64 n1, .int .i64 n2, .str n3, .own .str n4, .wr .node n5]], .int .i64 m], K => c30 b g n1 n2 n3 n4 n5 m K
  | _, _ => False
noncomputable def E30 : Ctx := mkE tab [(53, .gen .ln C53)]
noncomputable def O30 : Nat → List DI := ordL []
theorem a30 (b : Bs) (g : Bool) (n1 : Int) (n2 : Int) (n3 : Bs) (n4 : List Bs) (n5 : List Nd) (m : Int) (hb : BdAs [.tup [.st [.str b, .bool g, .int .i64 n1, .int .i64 n2, .str n3, .own .str n4, .wr .node n5]], .int .i64 m]) (K : AV → List AV → Prop) (h : c30 b g n1 n2 n3 n4 n5 m K) : abody E30 O30 .ow Try.f30 (Try.f30.body.getD .skip) [.tup [.st [.str b, .bool g, .int .i64 n1, .int .i64 n2, .str n3, .own .str n4, .wr .node n5]], .int .i64 m] K := by
  simp only [BdAs, BdA, BdL, BdC, MX, ndC, shC, itC, stC, opC, chC, nwC, flC, rqC, rsC, enc, List.cons_append, List.nil_append, and_true, true_and] at hb
  unfold c30 at h
  obtain ⟨hs, hK⟩ := h
  conv => whnf
  repeat' first
    | (refine Cnd.mk (fun h => ?_) (fun h => ?_) <;> (try simp [etas, elDef, -List.getD_eq_getElem?_getD] at h) <;> conv => whnf)
    | (refine Obl.mk (by first | omega | rfl | exact inK_byte _ | (simp only [inK, Int.toNat_natCast, etas, elDef] <;> first | omega | grind) | grind [inK]) ?_ <;> conv => whnf)
    | (refine OblG.mk (by conv => whnf
                          repeat (first | (refine Bx.mk ?_) | (intro h; (try simp [etas, elDef, -List.getD_eq_getElem?_getD] at h); conv => whnf))
                          first | omega | rfl | exact inK_byte _ | (simp only [inK, Int.toNat_natCast, etas, elDef] <;> first | omega | grind) | grind [inK]) ?_ <;> conv => whnf)
    | (refine Gd.mk (fun h => ?_) <;> (try simp [etas, elDef, -List.getD_eq_getElem?_getD] at h) <;> conv => whnf)
    | (refine And.intro ?_ ?_ <;> conv => whnf)
    | exact True.intro
    | (intro; conv => whnf)
  all_goals exact leafV hK rfl
theorem s30 : (CtrOK Try.prog 30 (.gen .ln C30) ∧ Callable Try.prog 30) := by
  refine gen_ok (E := E30) (mkE_cons s53 (mkE_nil tab_ok)) mix (O := O30) (C := C30) (own := .ow) Try.func30 rfl (by rfl) (by kernel_rfl) (fun args K h hbd => ?_)
  unfold C30 at h; split at h
  case h_2 => exact h.elim
  exact ⟨Nat.le_of_ble_eq_true rfl, a30 _ _ _ _ _ _ _ _ (by exact hbd) _ h⟩
end Go.Rs

