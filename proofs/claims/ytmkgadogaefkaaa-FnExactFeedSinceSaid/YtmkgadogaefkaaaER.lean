import Derived.Test.YtmkgadogaefkaaaEN
import Derived.Test.YtmkgadogaefkaaaKN
import Derived.Test.YtmkgadogaefkaaaKI
import Derived.Test.YtmkgadogaefkaaaKC
import Derived.Test.YtmkgadogaefkaaaKW
import Derived.Test.YtmkgadogaefkaaaEK
import Derived.Test.YtmkgadogaefkaaaEF
set_option linter.all false
set_option linter.unusedSimpArgs false
set_option linter.unusedVariables false
namespace Go.Rs
open Go.Proofs Go.RowKit
set_option maxRecDepth 100000
def chD (x : Chg) : List AV := .str x.name :: .bool x.gone :: ndD x.node
def stW (s : Sto) : List AV := [.wr .item s.items, .int .i64 s.clock]
def optSW (o : Option Sto) : AV := .tup [.st (stW (o.getD ⟨[], 0⟩)), .bool o.isSome]
noncomputable def c62d (x : It) (K : AV → List AV → Prop) : Prop :=
    Obl (smN x.node) (K (.st (itD x)) [])
noncomputable def D62d : List AV → (AV → List AV → Prop) → Prop
  | [.st [.str x_0, .int .i64 x_1, .int .i64 x_2_0, .int .i64 x_2_1, .str x_2_2, .ps .str x_2_3, .ps .node x_2_4]], K => c62d ⟨x_0, x_1, ⟨x_2_0, x_2_1, x_2_2, x_2_3, x_2_4⟩⟩ K
  | _, _ => False
noncomputable def C62d (args : List AV) (K : AV → List AV → Prop) : Prop := D62d (fixAs args) K
noncomputable def E62d : Ctx := mkE tab [(63, .gen .ow C63d)]
noncomputable def O62d : Nat → List DI := ordL []
theorem a62d (x : It) (hb : BdAs [.st (itC x)]) (K : AV → List AV → Prop) (h : c62d x K) : abodyD E62d O62d .ow Try.f62 (Try.f62.body.getD .skip) [.st (itC x)] (fun r rs => K (fixR r) (fixAs rs)) := by
  simp only [BdAs, BdA, BdL, BdC, MX, ndC, shC, itC, stC, opC, chC, nwC, flC, rqC, rsC, enc, List.cons_append, List.nil_append, and_true, true_and] at hb
  unfold c62d at h
  obtain ⟨hs, hK⟩ := h
  conv => whnf
  repeat' first|(refine Cnd.mk (fun h=>?_) (fun h=>?_)<;>(try simp [etas,elDef,-List.getD_eq_getElem?_getD] at h)<;>conv=>whnf)|(refine Obl.mk (by first|omega|rfl|exact inK_byte _|(simp only [inK,Int.toNat_natCast,etas,elDef,m63d]<;>first|omega|grind)|grind [inK,m63d]) ?_<;>conv=>whnf)|(refine OblG.mk (by ((conv=>whnf);(repeat (first|(refine Bx.mk ?_)|(intro h;(try simp [etas,elDef,-List.getD_eq_getElem?_getD] at h);conv=>whnf)));(first|omega|rfl|exact inK_byte _|(simp only [inK,Int.toNat_natCast,etas,elDef,m63d]<;>first|omega|grind)|grind [inK,m63d]))) ?_<;>conv=>whnf)|(refine Gd.mk (fun h=>?_)<;>(try simp [etas,elDef,-List.getD_eq_getElem?_getD] at h)<;>conv=>whnf)|(refine And.intro ?_ ?_<;>conv=>whnf)|exact True.intro|(intro;conv=>whnf)
  all_goals exact leafV hK rfl
theorem s62d : (CtrOK Try.prog 62 (.gen .ow C62d) ∧ Callable Try.prog 62) := by
  refine gen_okD (E := E62d) (mkE_cons s63d (mkE_nil tab_ok)) mix (O := O62d) (D := D62d) (own := .ow) Try.func62 rfl (by rfl) (by kernel_rfl) (fun args K h hbd => ?_)
  unfold D62d at h; split at h
  case h_2 => exact h.elim
  exact ⟨Nat.le_of_ble_eq_true rfl, a62d ⟨_, _, ⟨_, _, _, _, _⟩⟩ (by exact hbd) _ h⟩
noncomputable def c49d (x : Chg) (K : AV → List AV → Prop) : Prop :=
    Obl (smN x.node) (K (.st (chD x)) [])
noncomputable def D49d : List AV → (AV → List AV → Prop) → Prop
  | [.st [.str x_0, .bool x_1, .int .i64 x_2_0, .int .i64 x_2_1, .str x_2_2, .ps .str x_2_3, .ps .node x_2_4]], K => c49d ⟨x_0, x_1, ⟨x_2_0, x_2_1, x_2_2, x_2_3, x_2_4⟩⟩ K
  | _, _ => False
noncomputable def C49d (args : List AV) (K : AV → List AV → Prop) : Prop := D49d (fixAs args) K
noncomputable def E49d : Ctx := mkE tab [(63, .gen .ow C63d)]
noncomputable def O49d : Nat → List DI := ordL []
theorem a49d (x : Chg) (hb : BdAs [.st (chC x)]) (K : AV → List AV → Prop) (h : c49d x K) : abodyD E49d O49d .ow Try.f49 (Try.f49.body.getD .skip) [.st (chC x)] (fun r rs => K (fixR r) (fixAs rs)) := by
  simp only [BdAs, BdA, BdL, BdC, MX, ndC, shC, itC, stC, opC, chC, nwC, flC, rqC, rsC, enc, List.cons_append, List.nil_append, and_true, true_and] at hb
  unfold c49d at h
  obtain ⟨hs, hK⟩ := h
  conv => whnf
  repeat' first|(refine Cnd.mk (fun h=>?_) (fun h=>?_)<;>(try simp [etas,elDef,-List.getD_eq_getElem?_getD] at h)<;>conv=>whnf)|(refine Obl.mk (by first|omega|rfl|exact inK_byte _|(simp only [inK,Int.toNat_natCast,etas,elDef,m63d]<;>first|omega|grind)|grind [inK,m63d]) ?_<;>conv=>whnf)|(refine OblG.mk (by ((conv=>whnf);(repeat (first|(refine Bx.mk ?_)|(intro h;(try simp [etas,elDef,-List.getD_eq_getElem?_getD] at h);conv=>whnf)));(first|omega|rfl|exact inK_byte _|(simp only [inK,Int.toNat_natCast,etas,elDef,m63d]<;>first|omega|grind)|grind [inK,m63d]))) ?_<;>conv=>whnf)|(refine Gd.mk (fun h=>?_)<;>(try simp [etas,elDef,-List.getD_eq_getElem?_getD] at h)<;>conv=>whnf)|(refine And.intro ?_ ?_<;>conv=>whnf)|exact True.intro|(intro;conv=>whnf)
  all_goals exact leafV hK rfl
theorem s49d : (CtrOK Try.prog 49 (.gen .ow C49d) ∧ Callable Try.prog 49) := by
  refine gen_okD (E := E49d) (mkE_cons s63d (mkE_nil tab_ok)) mix (O := O49d) (D := D49d) (own := .ow) Try.func49 rfl (by rfl) (by kernel_rfl) (fun args K h hbd => ?_)
  unfold D49d at h; split at h
  case h_2 => exact h.elim
  exact ⟨Nat.le_of_ble_eq_true rfl, a49d ⟨_, _, ⟨_, _, _, _, _⟩⟩ (by exact hbd) _ h⟩
noncomputable def c28d (l : List It) (K : AV → List AV → Prop) : Prop :=
    Obl (smIs l) (K (.dp .item l) [])
noncomputable def D28d : List AV → (AV → List AV → Prop) → Prop
  | [.ps .item l], K => c28d l K
  | _, _ => False
noncomputable def C28d (args : List AV) (K : AV → List AV → Prop) : Prop := D28d (fixAs args) K
noncomputable def E28d : Ctx := mkE tab [(62, .gen .ow C62d)]
noncomputable def O28d : Nat → List DI := ordL []
theorem a28d (l : List It) (hb : BdAs [.ps .item l]) (K : AV → List AV → Prop) (h : c28d l K) : abodyD E28d O28d .ow Try.f28 (Try.f28.body.getD .skip) [.ps .item l] (fun r rs => K (fixR r) (fixAs rs)) := by
  simp only [BdAs, BdA, BdL, BdC, MX, ndC, shC, itC, stC, opC, chC, nwC, flC, rqC, rsC, enc, List.cons_append, List.nil_append, and_true, true_and] at hb
  unfold c28d at h
  obtain ⟨hs, hK⟩ := h
  have hkid : ∀ j, j < l.length → smN (l.getD j default).node := fun j hj => hs.kid hj
  have h3 := hs.1
  conv => whnf
  repeat' first|(refine Cnd.mk (fun h=>?_) (fun h=>?_)<;>(try simp [etas,elDef,-List.getD_eq_getElem?_getD] at h)<;>conv=>whnf)|(refine Obl.mk (by first|omega|rfl|exact inK_byte _|(simp only [inK,Int.toNat_natCast,etas,elDef]<;>first|omega|grind)|grind [inK]) ?_<;>conv=>whnf)|(refine OblG.mk (by ((conv=>whnf);(repeat (first|(refine Bx.mk ?_)|(intro h;(try simp [etas,elDef,-List.getD_eq_getElem?_getD] at h);conv=>whnf)));(first|omega|rfl|exact inK_byte _|(simp only [inK,Int.toNat_natCast,etas,elDef]<;>first|omega|grind)|grind [inK]))) ?_<;>conv=>whnf)|(refine Gd.mk (fun h=>?_)<;>(try simp [etas,elDef,-List.getD_eq_getElem?_getD] at h)<;>conv=>whnf)|(refine And.intro ?_ ?_<;>conv=>whnf)|exact True.intro|(intro;conv=>whnf)
  refine aloop_intro Nat (fun k => k ≤ l.length ∧ True) (fun k => l.length - k) (fun k => [(4, .int .i64 k)]) (fun k => [(7, .tree .item (fillD default l k))]) [] 0 [] [] ?_ ?_ (by exact sgOk_of (by rfl)) ?_
  · first | (simp; done) | (simp; assumption)
  · iterate 2 ((all_goals (conv=>whnf));(repeat' (first|exact trivial|rfl|(refine nilEq ?_;first|rfl|(simp only [*];done)|(simp [*];done)|grind)|apply And.intro|((first|refine intEq ?_|refine boolEq ?_|refine strEq ?_|refine psEq ?_|refine nilEq ?_|refine arrEq ?_);(try simp only [Int.toNat_natCast,etas,elDef]);first | done | omega | grind | (simp only [*]; done) | (simp [*]; done)))));(all_goals ((try simp only [Int.toNat_natCast,etas,elDef]);first | done | omega | grind | (simp only [*]; done) | (simp [*]; done)))
  rintro i ⟨hi, hj⟩
  conv => whnf
  have hl := fillD_len default l hi
  have hset := fun h => fillD_set default l (k := i) h
  repeat' first|(refine Cnd.mk (fun h=>?_) (fun h=>?_)<;>(try simp [etas,elDef,-List.getD_eq_getElem?_getD] at h)<;>conv=>whnf)|(refine Obl.mk (by first|omega|rfl|exact inK_byte _|(simp only [inK,Int.toNat_natCast,etas,elDef]<;>first|omega|grind)|grind [inK]) ?_<;>conv=>whnf)|(refine OblG.mk (by ((conv=>whnf);(repeat (first|(refine Bx.mk ?_)|(intro h;(try simp [etas,elDef,-List.getD_eq_getElem?_getD] at h);conv=>whnf)));(first|omega|rfl|exact inK_byte _|(simp only [inK,Int.toNat_natCast,etas,elDef]<;>first|omega|grind)|grind [inK]))) ?_<;>conv=>whnf)|(refine Gd.mk (fun h=>?_)<;>(try simp [etas,elDef,-List.getD_eq_getElem?_getD] at h)<;>conv=>whnf)|(refine And.intro ?_ ?_<;>conv=>whnf)|exact True.intro|(intro;conv=>whnf)
  · exact ⟨i + 1, [], [], ⟨by omega, by grind⟩, by omega, by iterate 2 ((all_goals (conv=>whnf));(repeat' (first|exact trivial|rfl|(refine nilEq ?_;first|rfl|(simp only [*];done)|(simp [*];done)|grind)|apply And.intro|((first|refine intEq ?_|refine boolEq ?_|refine strEq ?_|refine psEq ?_|refine nilEq ?_|refine arrEq ?_);(try simp only [Int.toNat_natCast,etas,elDef]);first | done | omega | grind | (simp only [*]; done) | (simp [*]; done)))));(all_goals ((try simp only [Int.toNat_natCast,etas,elDef]);first | done | omega | grind | (simp only [*]; done) | (simp [*]; done))), (by exact sgOk_of (by rfl))⟩
  · exact leafV hK (by simp_all [fixR, fixV, fixL, fix1, deepE, fillD_all default l ‹l.length ≤ i›])
theorem s28d : (CtrOK Try.prog 28 (.gen .ow C28d) ∧ Callable Try.prog 28) := by
  refine gen_okD (E := E28d) (mkE_cons s62d (mkE_nil tab_ok)) mix (O := O28d) (D := D28d) (own := .ow) Try.func28 rfl (by rfl) (by kernel_rfl) (fun args K h hbd => ?_)
  unfold D28d at h; split at h
  case h_2 => exact h.elim
  exact ⟨Nat.le_of_ble_eq_true rfl, a28d _ (by exact hbd) _ h⟩
noncomputable def c18d (l : List Chg) (K : AV → List AV → Prop) : Prop :=
    Obl (smCs l) (K (.dp .chg l) [])
noncomputable def D18d : List AV → (AV → List AV → Prop) → Prop
  | [.ps .chg l], K => c18d l K
  | _, _ => False
noncomputable def C18d (args : List AV) (K : AV → List AV → Prop) : Prop := D18d (fixAs args) K
noncomputable def E18d : Ctx := mkE tab [(49, .gen .ow C49d)]
noncomputable def O18d : Nat → List DI := ordL []
theorem a18d (l : List Chg) (hb : BdAs [.ps .chg l]) (K : AV → List AV → Prop) (h : c18d l K) : abodyD E18d O18d .ow Try.f18 (Try.f18.body.getD .skip) [.ps .chg l] (fun r rs => K (fixR r) (fixAs rs)) := by
  simp only [BdAs, BdA, BdL, BdC, MX, ndC, shC, itC, stC, opC, chC, nwC, flC, rqC, rsC, enc, List.cons_append, List.nil_append, and_true, true_and] at hb
  unfold c18d at h
  obtain ⟨hs, hK⟩ := h
  have hkid : ∀ j, j < l.length → smN (l.getD j default).node := fun j hj => hs.kid hj
  have h3 := hs.1
  conv => whnf
  repeat' first|(refine Cnd.mk (fun h=>?_) (fun h=>?_)<;>(try simp [etas,elDef,-List.getD_eq_getElem?_getD] at h)<;>conv=>whnf)|(refine Obl.mk (by first|omega|rfl|exact inK_byte _|(simp only [inK,Int.toNat_natCast,etas,elDef]<;>first|omega|grind)|grind [inK]) ?_<;>conv=>whnf)|(refine OblG.mk (by ((conv=>whnf);(repeat (first|(refine Bx.mk ?_)|(intro h;(try simp [etas,elDef,-List.getD_eq_getElem?_getD] at h);conv=>whnf)));(first|omega|rfl|exact inK_byte _|(simp only [inK,Int.toNat_natCast,etas,elDef]<;>first|omega|grind)|grind [inK]))) ?_<;>conv=>whnf)|(refine Gd.mk (fun h=>?_)<;>(try simp [etas,elDef,-List.getD_eq_getElem?_getD] at h)<;>conv=>whnf)|(refine And.intro ?_ ?_<;>conv=>whnf)|exact True.intro|(intro;conv=>whnf)
  refine aloop_intro Nat (fun k => k ≤ l.length ∧ True) (fun k => l.length - k) (fun k => [(4, .int .i64 k)]) (fun k => [(7, .tree .chg (fillD default l k))]) [] 0 [] [] ?_ ?_ (by exact sgOk_of (by rfl)) ?_
  · first | (simp; done) | (simp; assumption)
  · iterate 2 ((all_goals (conv=>whnf));(repeat' (first|exact trivial|rfl|(refine nilEq ?_;first|rfl|(simp only [*];done)|(simp [*];done)|grind)|apply And.intro|((first|refine intEq ?_|refine boolEq ?_|refine strEq ?_|refine psEq ?_|refine nilEq ?_|refine arrEq ?_);(try simp only [Int.toNat_natCast,etas,elDef]);first | done | omega | grind | (simp only [*]; done) | (simp [*]; done)))));(all_goals ((try simp only [Int.toNat_natCast,etas,elDef]);first | done | omega | grind | (simp only [*]; done) | (simp [*]; done)))
  rintro i ⟨hi, hj⟩
  conv => whnf
  have hl := fillD_len default l hi
  have hset := fun h => fillD_set default l (k := i) h
  repeat' first|(refine Cnd.mk (fun h=>?_) (fun h=>?_)<;>(try simp [etas,elDef,-List.getD_eq_getElem?_getD] at h)<;>conv=>whnf)|(refine Obl.mk (by first|omega|rfl|exact inK_byte _|(simp only [inK,Int.toNat_natCast,etas,elDef]<;>first|omega|grind)|grind [inK]) ?_<;>conv=>whnf)|(refine OblG.mk (by ((conv=>whnf);(repeat (first|(refine Bx.mk ?_)|(intro h;(try simp [etas,elDef,-List.getD_eq_getElem?_getD] at h);conv=>whnf)));(first|omega|rfl|exact inK_byte _|(simp only [inK,Int.toNat_natCast,etas,elDef]<;>first|omega|grind)|grind [inK]))) ?_<;>conv=>whnf)|(refine Gd.mk (fun h=>?_)<;>(try simp [etas,elDef,-List.getD_eq_getElem?_getD] at h)<;>conv=>whnf)|(refine And.intro ?_ ?_<;>conv=>whnf)|exact True.intro|(intro;conv=>whnf)
  · exact ⟨i + 1, [], [], ⟨by omega, by grind⟩, by omega, by iterate 2 ((all_goals (conv=>whnf));(repeat' (first|exact trivial|rfl|(refine nilEq ?_;first|rfl|(simp only [*];done)|(simp [*];done)|grind)|apply And.intro|((first|refine intEq ?_|refine boolEq ?_|refine strEq ?_|refine psEq ?_|refine nilEq ?_|refine arrEq ?_);(try simp only [Int.toNat_natCast,etas,elDef]);first | done | omega | grind | (simp only [*]; done) | (simp [*]; done)))));(all_goals ((try simp only [Int.toNat_natCast,etas,elDef]);first | done | omega | grind | (simp only [*]; done) | (simp [*]; done))), (by exact sgOk_of (by rfl))⟩
  · exact leafV hK (by simp_all [fixR, fixV, fixL, fix1, deepE, fillD_all default l ‹l.length ≤ i›])
theorem s18d : (CtrOK Try.prog 18 (.gen .ow C18d) ∧ Callable Try.prog 18) := by
  refine gen_okD (E := E18d) (mkE_cons s49d (mkE_nil tab_ok)) mix (O := O18d) (D := D18d) (own := .ow) Try.func18 rfl (by rfl) (by kernel_rfl) (fun args K h hbd => ?_)
  unfold D18d at h; split at h
  case h_2 => exact h.elim
  exact ⟨Nat.le_of_ble_eq_true rfl, a18d _ (by exact hbd) _ h⟩
noncomputable def c8d (s : Sto) (K : AV → List AV → Prop) : Prop :=
    Obl (smIs s.items) (K (.st [.dp .item s.items, .int .i64 s.clock]) [])
noncomputable def D8d : List AV → (AV → List AV → Prop) → Prop
  | [.st [.ps .item s_0, .int .i64 s_1]], K => c8d ⟨s_0, s_1⟩ K
  | _, _ => False
noncomputable def C8d (args : List AV) (K : AV → List AV → Prop) : Prop := D8d (fixAs args) K
noncomputable def E8d : Ctx := mkE tab [(28, .gen .ow C28d)]
noncomputable def O8d : Nat → List DI := ordL []
theorem a8d (s : Sto) (hb : BdAs [.st (stC s)]) (K : AV → List AV → Prop) (h : c8d s K) : abodyD E8d O8d .ow Try.f8 (Try.f8.body.getD .skip) [.st (stC s)] (fun r rs => K (fixR r) (fixAs rs)) := by
  simp only [BdAs, BdA, BdL, BdC, MX, ndC, shC, itC, stC, opC, chC, nwC, flC, rqC, rsC, enc, List.cons_append, List.nil_append, and_true, true_and] at hb
  unfold c8d at h
  obtain ⟨hs, hK⟩ := h
  conv => whnf
  repeat' first|(refine Cnd.mk (fun h=>?_) (fun h=>?_)<;>(try simp [etas,elDef,-List.getD_eq_getElem?_getD] at h)<;>conv=>whnf)|(refine Obl.mk (by first|omega|rfl|exact inK_byte _|(simp only [inK,Int.toNat_natCast,etas,elDef]<;>first|omega|grind)|grind [inK]) ?_<;>conv=>whnf)|(refine OblG.mk (by ((conv=>whnf);(repeat (first|(refine Bx.mk ?_)|(intro h;(try simp [etas,elDef,-List.getD_eq_getElem?_getD] at h);conv=>whnf)));(first|omega|rfl|exact inK_byte _|(simp only [inK,Int.toNat_natCast,etas,elDef]<;>first|omega|grind)|grind [inK]))) ?_<;>conv=>whnf)|(refine Gd.mk (fun h=>?_)<;>(try simp [etas,elDef,-List.getD_eq_getElem?_getD] at h)<;>conv=>whnf)|(refine And.intro ?_ ?_<;>conv=>whnf)|exact True.intro|(intro;conv=>whnf)
  all_goals exact leafV hK rfl
theorem s8d : (CtrOK Try.prog 8 (.gen .ow C8d) ∧ Callable Try.prog 8) := by
  refine gen_okD (E := E8d) (mkE_cons s28d (mkE_nil tab_ok)) mix (O := O8d) (D := D8d) (own := .ow) Try.func8 rfl (by rfl) (by kernel_rfl) (fun args K h hbd => ?_)
  unfold D8d at h; split at h
  case h_2 => exact h.elim
  exact ⟨Nat.le_of_ble_eq_true rfl, a8d ⟨_, _⟩ (by exact hbd) _ h⟩
noncomputable def c18r (l : List Chg) (K : AV → List AV → Prop) : Prop :=
    Obl (smCs l) (K (.wr .chg l) [])
noncomputable def C18r : List AV → (AV → List AV → Prop) → Prop
  | [.ps .chg l], K => c18r l K
  | _, _ => False
theorem s18r : CtrOK Try.prog 18 (.gen .ow C18r) ∧ Callable Try.prog 18 := by
  refine ⟨Snd.of (Snd.lend s18d.1) fun vs K h => ?_, s18d.2⟩
  unfold C18r at h
  split at h
  case h_2 => exact h.elim
  unfold c18r at h
  exact ⟨rfl, h.1, rfl, rfl, h.2⟩
noncomputable def c8r (s : Sto) (K : AV → List AV → Prop) : Prop :=
    Obl (smIs s.items) (K (.st (stW s)) [])
noncomputable def C8r : List AV → (AV → List AV → Prop) → Prop
  | [.st [.ps .item s_0, .int .i64 s_1]], K => c8r ⟨s_0, s_1⟩ K
  | _, _ => False
theorem s8r : CtrOK Try.prog 8 (.gen .ow C8r) ∧ Callable Try.prog 8 := by
  refine ⟨Snd.of (Snd.lend s8d.1) fun vs K h => ?_, s8d.2⟩
  unfold C8r at h
  split at h
  case h_2 => exact h.elim
  unfold c8r at h
  exact ⟨rfl, h.1, rfl, rfl, h.2⟩
noncomputable def c39 (l : List It) (m : Int) (K : AV → List AV → Prop) : Prop :=
    Obl (0 ≤ m ∧ m + ((totIs l : Nat) : Int) ≤ 4611686018427387904) (K (.int .i64 (m + ((totIs l : Nat) : Int))) [.wr .item (mkIs l m)])
noncomputable def C39 : List AV → (AV → List AV → Prop) → Prop
  | [.tup [.wr .item l], .int .i64 m], K => c39 l m K
  | _, _ => False
theorem s39 : CtrOK Try.prog 39 (.gen .ln C39) ∧ Callable Try.prog 39 := by
  refine ⟨fun vs K h => ?_, callable Try.func39 (by kernel_rfl) (by kernel_rfl)⟩
  unfold C39 at h
  split at h
  case h_2 => exact h.elim
  unfold c39 at h
  obtain ⟨h1, h2⟩ := h
  exact fun w γ S xs hi hn hf ht hS => snd_markW h2 (fun w x bs hd hn ht htb => kmarkItemS _ _ w x bs hd hn ht htb h1.1 h1.2) hi hn hf ht hS
noncomputable def c21 (l : List Chg) (m : Int) (K : AV → List AV → Prop) : Prop :=
    Obl (0 ≤ m ∧ m + ((totCs l : Nat) : Int) ≤ 4611686018427387904) (K (.int .i64 (m + ((totCs l : Nat) : Int))) [.wr .chg (mkCs l m)])
noncomputable def C21 : List AV → (AV → List AV → Prop) → Prop
  | [.tup [.wr .chg l], .int .i64 m], K => c21 l m K
  | _, _ => False
theorem s21 : CtrOK Try.prog 21 (.gen .ln C21) ∧ Callable Try.prog 21 := by
  refine ⟨fun vs K h => ?_, callable Try.func21 (by kernel_rfl) (by kernel_rfl)⟩
  unfold C21 at h
  split at h
  case h_2 => exact h.elim
  unfold c21 at h
  obtain ⟨h1, h2⟩ := h
  exact fun w γ S xs hi hn hf ht hS => snd_markW h2 (fun w x bs hd hn ht htb => kmarkChangeS _ _ w x bs hd hn ht htb h1.1 h1.2) hi hn hf ht hS
noncomputable def c14 (l : List Nws) (m : Int) (K : AV → List AV → Prop) : Prop :=
    Obl (0 ≤ m ∧ m + ((totWs l : Nat) : Int) ≤ 4611686018427387904) (K (.int .i64 (m + ((totWs l : Nat) : Int))) [.wr .nws (mkWs l m)])
noncomputable def C14 : List AV → (AV → List AV → Prop) → Prop
  | [.tup [.wr .nws l], .int .i64 m], K => c14 l m K
  | _, _ => False
theorem s14 : CtrOK Try.prog 14 (.gen .ln C14) ∧ Callable Try.prog 14 := by
  refine ⟨fun vs K h => ?_, callable Try.func14 (by kernel_rfl) (by kernel_rfl)⟩
  unfold C14 at h
  split at h
  case h_2 => exact h.elim
  unfold c14 at h
  obtain ⟨h1, h2⟩ := h
  exact fun w γ S xs hi hn hf ht hS => snd_markW h2 (fun w x bs hd hn ht htb => kmarkNewsS _ _ w x bs hd hn ht htb h1.1 h1.2) hi hn hf ht hS
noncomputable def c13 (l : List It) (c : Int) (m : Int) (K : AV → List AV → Prop) : Prop :=
    Obl (0 ≤ m ∧ m + ((totIs l : Nat) : Int) ≤ 4611686018427387904) (K (.int .i64 (m + ((totIs l : Nat) : Int))) [.wr .item (mkIs l m)])
noncomputable def C13 : List AV → (AV → List AV → Prop) → Prop
  | [.tup [.st [.wr .item l, .int .i64 c]], .int .i64 m], K => c13 l c m K
  | _, _ => False
noncomputable def E13 : Ctx := mkE tab [(39, .gen .ln C39)]
noncomputable def O13 : Nat → List DI := ordL []
theorem a13 (l : List It) (c : Int) (m : Int) (hb : BdAs [.tup [.st [.wr .item l, .int .i64 c]], .int .i64 m]) (K : AV → List AV → Prop) (h : c13 l c m K) : abody E13 O13 .ow Try.f13 (Try.f13.body.getD .skip) [.tup [.st [.wr .item l, .int .i64 c]], .int .i64 m] K := by
  simp only [BdAs, BdA, BdL, BdC, MX, ndC, shC, itC, stC, opC, chC, nwC, flC, rqC, rsC, enc, List.cons_append, List.nil_append, and_true, true_and] at hb
  unfold c13 at h
  obtain ⟨hs, hK⟩ := h
  conv => whnf
  repeat' first|(refine Cnd.mk (fun h=>?_) (fun h=>?_)<;>(try simp [etas,elDef,-List.getD_eq_getElem?_getD] at h)<;>conv=>whnf)|(refine Obl.mk (by first|omega|rfl|exact inK_byte _|(simp only [inK,Int.toNat_natCast,etas,elDef]<;>first|omega|grind)|grind [inK]) ?_<;>conv=>whnf)|(refine OblG.mk (by ((conv=>whnf);(repeat (first|(refine Bx.mk ?_)|(intro h;(try simp [etas,elDef,-List.getD_eq_getElem?_getD] at h);conv=>whnf)));(first|omega|rfl|exact inK_byte _|(simp only [inK,Int.toNat_natCast,etas,elDef]<;>first|omega|grind)|grind [inK]))) ?_<;>conv=>whnf)|(refine Gd.mk (fun h=>?_)<;>(try simp [etas,elDef,-List.getD_eq_getElem?_getD] at h)<;>conv=>whnf)|(refine And.intro ?_ ?_<;>conv=>whnf)|exact True.intro|(intro;conv=>whnf)
  all_goals exact leafV hK rfl
theorem s13 : (CtrOK Try.prog 13 (.gen .ln C13) ∧ Callable Try.prog 13) := by
  refine gen_ok (E := E13) (mkE_cons s39 (mkE_nil tab_ok)) mix (O := O13) (C := C13) (own := .ow) Try.func13 rfl (by rfl) (by kernel_rfl) (fun args K h hbd => ?_)
  unfold C13 at h; split at h
  case h_2 => exact h.elim
  exact ⟨Nat.le_of_ble_eq_true rfl, a13 _ _ _ (by exact hbd) _ h⟩
end Go.Rs

