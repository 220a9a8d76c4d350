import Derived.Test.YtfaaemggaliojaaGreatDoorEN
import Derived.Test.YtfaaemggaliojaaGreatDoorKN
import Derived.Test.YtfaaemggaliojaaGreatDoorKI
import Derived.Test.YtfaaemggaliojaaGreatDoorKF
import Derived.Test.YtfaaemggaliojaaGreatDoorEK
import Derived.Test.YtfaaemggaliojaaGreatDoorEF
set_option linter.all false
set_option linter.unusedSimpArgs false
set_option linter.unusedVariables false
namespace Go.Rs
open Go.Proofs Go.RowKit
set_option maxRecDepth 100000
def stW (s : Sto) : List AV := [.wr .item s.items, .int .i64 s.clock]
noncomputable def c43d (x : It) (K : AV → List AV → Prop) : Prop :=
    Obl (smN x.node) (K (.st (itD x)) [])
noncomputable def D43d : List AV → (AV → List AV → Prop) → Prop
  | [.st [.str x_0, .int .i64 x_1, .int .i64 x_2_0, .int .i64 x_2_1, .str x_2_2, .ps .str x_2_3, .ps .node x_2_4]], K => c43d ⟨x_0, x_1, ⟨x_2_0, x_2_1, x_2_2, x_2_3, x_2_4⟩⟩ K
  | _, _ => False
noncomputable def C43d (args : List AV) (K : AV → List AV → Prop) : Prop := D43d (fixAs args) K
noncomputable def E43d : Ctx := mkE tab [(45, .gen .ow C45d)]
noncomputable def O43d : Nat → List DI := ordL []
theorem a43d (x : It) (hb : BdAs [.st (itC x)]) (K : AV → List AV → Prop) (h : c43d x K) : abodyD E43d O43d .ow Tryz.f43 (Tryz.f43.body.getD .skip) [.st (itC x)] (fun r rs => K (fixR r) (fixAs rs)) := by
  simp only [BdAs, BdA, BdL, BdC, MX, ndC, shC, itC, stC, opC, chC, nwC, flC, rqC, rsC, enc, List.cons_append, List.nil_append, and_true, true_and] at hb
  unfold c43d at h
  obtain ⟨hs, hK⟩ := h
  conv => whnf
  repeat' first|(refine Cnd.mk (fun h=>?_) (fun h=>?_)<;>(try simp [etas,elDef,-List.getD_eq_getElem?_getD] at h)<;>conv=>whnf)|(refine Obl.mk (by first|omega|rfl|exact inK_byte _|(simp only [inK,Int.toNat_natCast,etas,elDef,m45d]<;>first|omega|grind)|grind [inK,m45d]) ?_<;>conv=>whnf)|(refine OblG.mk (by ((conv=>whnf);(repeat (first|(refine Bx.mk ?_)|(intro h;(try simp [etas,elDef,-List.getD_eq_getElem?_getD] at h);conv=>whnf)));(first|omega|rfl|exact inK_byte _|(simp only [inK,Int.toNat_natCast,etas,elDef,m45d]<;>first|omega|grind)|grind [inK,m45d]))) ?_<;>conv=>whnf)|(refine Gd.mk (fun h=>?_)<;>(try simp [etas,elDef,-List.getD_eq_getElem?_getD] at h)<;>conv=>whnf)|(refine And.intro ?_ ?_<;>conv=>whnf)|exact True.intro|(intro;conv=>whnf)
  all_goals exact leafV hK rfl
theorem s43d : (CtrOK Tryz.prog 43 (.gen .ow C43d) ∧ Callable Tryz.prog 43) := by
  refine gen_okD (E := E43d) (mkE_cons s45d (mkE_nil tab_ok)) mix (O := O43d) (D := D43d) (own := .ow) Tryz.func43 rfl (by rfl) (by kernel_rfl) (fun args K h hbd => ?_)
  unfold D43d at h; split at h
  case h_2 => exact h.elim
  exact ⟨Nat.le_of_ble_eq_true rfl, a43d ⟨_, _, ⟨_, _, _, _, _⟩⟩ (by exact hbd) _ h⟩
noncomputable def c21d (l : List It) (K : AV → List AV → Prop) : Prop :=
    Obl (smIs l) (K (.dp .item l) [])
noncomputable def D21d : List AV → (AV → List AV → Prop) → Prop
  | [.ps .item l], K => c21d l K
  | _, _ => False
noncomputable def C21d (args : List AV) (K : AV → List AV → Prop) : Prop := D21d (fixAs args) K
noncomputable def E21d : Ctx := mkE tab [(43, .gen .ow C43d)]
noncomputable def O21d : Nat → List DI := ordL []
theorem a21d (l : List It) (hb : BdAs [.ps .item l]) (K : AV → List AV → Prop) (h : c21d l K) : abodyD E21d O21d .ow Tryz.f21 (Tryz.f21.body.getD .skip) [.ps .item l] (fun r rs => K (fixR r) (fixAs rs)) := by
  simp only [BdAs, BdA, BdL, BdC, MX, ndC, shC, itC, stC, opC, chC, nwC, flC, rqC, rsC, enc, List.cons_append, List.nil_append, and_true, true_and] at hb
  unfold c21d at h
  obtain ⟨hs, hK⟩ := h
  have hkid : ∀ j, j < l.length → smN (l.getD j default).node := fun j hj => hs.kid hj
  have h3 := hs.1
  conv => whnf
  repeat' first|(refine Cnd.mk (fun h=>?_) (fun h=>?_)<;>(try simp [etas,elDef,-List.getD_eq_getElem?_getD] at h)<;>conv=>whnf)|(refine Obl.mk (by first|omega|rfl|exact inK_byte _|(simp only [inK,Int.toNat_natCast,etas,elDef]<;>first|omega|grind)|grind [inK]) ?_<;>conv=>whnf)|(refine OblG.mk (by ((conv=>whnf);(repeat (first|(refine Bx.mk ?_)|(intro h;(try simp [etas,elDef,-List.getD_eq_getElem?_getD] at h);conv=>whnf)));(first|omega|rfl|exact inK_byte _|(simp only [inK,Int.toNat_natCast,etas,elDef]<;>first|omega|grind)|grind [inK]))) ?_<;>conv=>whnf)|(refine Gd.mk (fun h=>?_)<;>(try simp [etas,elDef,-List.getD_eq_getElem?_getD] at h)<;>conv=>whnf)|(refine And.intro ?_ ?_<;>conv=>whnf)|exact True.intro|(intro;conv=>whnf)
  refine aloop_intro Nat (fun k => k ≤ l.length ∧ True) (fun k => l.length - k) (fun k => [(4, .int .i64 k)]) (fun k => [(7, .tree .item (fillD default l k))]) [] 0 [] [] ?_ ?_ (by exact sgOk_of (by rfl)) ?_
  · first | (simp; done) | (simp; assumption)
  · iterate 2 ((all_goals (conv=>whnf));(repeat' (first|exact trivial|rfl|(refine nilEq ?_;first|rfl|(simp only [*];done)|(simp [*];done)|grind)|apply And.intro|((first|refine intEq ?_|refine boolEq ?_|refine strEq ?_|refine psEq ?_|refine nilEq ?_|refine arrEq ?_);(try simp only [Int.toNat_natCast,etas,elDef]);first | done | omega | grind | (simp only [*]; done) | (simp [*]; done)))));(all_goals ((try simp only [Int.toNat_natCast,etas,elDef]);first | done | omega | grind | (simp only [*]; done) | (simp [*]; done)))
  rintro i ⟨hi, hj⟩
  conv => whnf
  have hl := fillD_len default l hi
  have hset := fun h => fillD_set default l (k := i) h
  repeat' first|(refine Cnd.mk (fun h=>?_) (fun h=>?_)<;>(try simp [etas,elDef,-List.getD_eq_getElem?_getD] at h)<;>conv=>whnf)|(refine Obl.mk (by first|omega|rfl|exact inK_byte _|(simp only [inK,Int.toNat_natCast,etas,elDef]<;>first|omega|grind)|grind [inK]) ?_<;>conv=>whnf)|(refine OblG.mk (by ((conv=>whnf);(repeat (first|(refine Bx.mk ?_)|(intro h;(try simp [etas,elDef,-List.getD_eq_getElem?_getD] at h);conv=>whnf)));(first|omega|rfl|exact inK_byte _|(simp only [inK,Int.toNat_natCast,etas,elDef]<;>first|omega|grind)|grind [inK]))) ?_<;>conv=>whnf)|(refine Gd.mk (fun h=>?_)<;>(try simp [etas,elDef,-List.getD_eq_getElem?_getD] at h)<;>conv=>whnf)|(refine And.intro ?_ ?_<;>conv=>whnf)|exact True.intro|(intro;conv=>whnf)
  · exact ⟨i + 1, [], [], ⟨by omega, by grind⟩, by omega, by iterate 2 ((all_goals (conv=>whnf));(repeat' (first|exact trivial|rfl|(refine nilEq ?_;first|rfl|(simp only [*];done)|(simp [*];done)|grind)|apply And.intro|((first|refine intEq ?_|refine boolEq ?_|refine strEq ?_|refine psEq ?_|refine nilEq ?_|refine arrEq ?_);(try simp only [Int.toNat_natCast,etas,elDef]);first | done | omega | grind | (simp only [*]; done) | (simp [*]; done)))));(all_goals ((try simp only [Int.toNat_natCast,etas,elDef]);first | done | omega | grind | (simp only [*]; done) | (simp [*]; done))), (by exact sgOk_of (by rfl))⟩
  · exact leafV hK (by simp_all [fixR, fixV, fixL, fix1, deepE, fillD_all default l ‹l.length ≤ i›])
theorem s21d : (CtrOK Tryz.prog 21 (.gen .ow C21d) ∧ Callable Tryz.prog 21) := by
  refine gen_okD (E := E21d) (mkE_cons s43d (mkE_nil tab_ok)) mix (O := O21d) (D := D21d) (own := .ow) Tryz.func21 rfl (by rfl) (by kernel_rfl) (fun args K h hbd => ?_)
  unfold D21d at h; split at h
  case h_2 => exact h.elim
  exact ⟨Nat.le_of_ble_eq_true rfl, a21d _ (by exact hbd) _ h⟩
noncomputable def c7d (s : Sto) (K : AV → List AV → Prop) : Prop :=
    Obl (smIs s.items) (K (.st [.dp .item s.items, .int .i64 s.clock]) [])
noncomputable def D7d : List AV → (AV → List AV → Prop) → Prop
  | [.st [.ps .item s_0, .int .i64 s_1]], K => c7d ⟨s_0, s_1⟩ K
  | _, _ => False
noncomputable def C7d (args : List AV) (K : AV → List AV → Prop) : Prop := D7d (fixAs args) K
noncomputable def E7d : Ctx := mkE tab [(21, .gen .ow C21d)]
noncomputable def O7d : Nat → List DI := ordL []
theorem a7d (s : Sto) (hb : BdAs [.st (stC s)]) (K : AV → List AV → Prop) (h : c7d s K) : abodyD E7d O7d .ow Tryz.f7 (Tryz.f7.body.getD .skip) [.st (stC s)] (fun r rs => K (fixR r) (fixAs rs)) := by
  simp only [BdAs, BdA, BdL, BdC, MX, ndC, shC, itC, stC, opC, chC, nwC, flC, rqC, rsC, enc, List.cons_append, List.nil_append, and_true, true_and] at hb
  unfold c7d at h
  obtain ⟨hs, hK⟩ := h
  conv => whnf
  repeat' first|(refine Cnd.mk (fun h=>?_) (fun h=>?_)<;>(try simp [etas,elDef,-List.getD_eq_getElem?_getD] at h)<;>conv=>whnf)|(refine Obl.mk (by first|omega|rfl|exact inK_byte _|(simp only [inK,Int.toNat_natCast,etas,elDef]<;>first|omega|grind)|grind [inK]) ?_<;>conv=>whnf)|(refine OblG.mk (by ((conv=>whnf);(repeat (first|(refine Bx.mk ?_)|(intro h;(try simp [etas,elDef,-List.getD_eq_getElem?_getD] at h);conv=>whnf)));(first|omega|rfl|exact inK_byte _|(simp only [inK,Int.toNat_natCast,etas,elDef]<;>first|omega|grind)|grind [inK]))) ?_<;>conv=>whnf)|(refine Gd.mk (fun h=>?_)<;>(try simp [etas,elDef,-List.getD_eq_getElem?_getD] at h)<;>conv=>whnf)|(refine And.intro ?_ ?_<;>conv=>whnf)|exact True.intro|(intro;conv=>whnf)
  all_goals exact leafV hK rfl
theorem s7d : (CtrOK Tryz.prog 7 (.gen .ow C7d) ∧ Callable Tryz.prog 7) := by
  refine gen_okD (E := E7d) (mkE_cons s21d (mkE_nil tab_ok)) mix (O := O7d) (D := D7d) (own := .ow) Tryz.func7 rfl (by rfl) (by kernel_rfl) (fun args K h hbd => ?_)
  unfold D7d at h; split at h
  case h_2 => exact h.elim
  exact ⟨Nat.le_of_ble_eq_true rfl, a7d ⟨_, _⟩ (by exact hbd) _ h⟩
noncomputable def c7r (s : Sto) (K : AV → List AV → Prop) : Prop :=
    Obl (smIs s.items) (K (.st (stW s)) [])
noncomputable def C7r : List AV → (AV → List AV → Prop) → Prop
  | [.st [.ps .item s_0, .int .i64 s_1]], K => c7r ⟨s_0, s_1⟩ K
  | _, _ => False
theorem s7r : CtrOK Tryz.prog 7 (.gen .ow C7r) ∧ Callable Tryz.prog 7 := by
  refine ⟨Snd.of (Snd.lend s7d.1) fun vs K h => ?_, s7d.2⟩
  unfold C7r at h
  split at h
  case h_2 => exact h.elim
  unfold c7r at h
  exact ⟨rfl, h.1, rfl, rfl, h.2⟩
noncomputable def c29 (l : List It) (m : Int) (K : AV → List AV → Prop) : Prop :=
    Obl (0 ≤ m ∧ m + ((totIs l : Nat) : Int) ≤ 4611686018427387904) (K (.int .i64 (m + ((totIs l : Nat) : Int))) [.wr .item (mkIs l m)])
noncomputable def C29 : List AV → (AV → List AV → Prop) → Prop
  | [.tup [.wr .item l], .int .i64 m], K => c29 l m K
  | _, _ => False
theorem s29 : CtrOK Tryz.prog 29 (.gen .ln C29) ∧ Callable Tryz.prog 29 := by
  refine ⟨fun vs K h => ?_, callable Tryz.func29 (by kernel_rfl) (by kernel_rfl)⟩
  unfold C29 at h
  split at h
  case h_2 => exact h.elim
  unfold c29 at h
  obtain ⟨h1, h2⟩ := h
  exact fun w γ S xs hi hn hf ht hS => snd_markW h2 (fun w x bs hd hn ht htb => kmarkItemS _ _ w x bs hd hn ht htb h1.1 h1.2) hi hn hf ht hS
noncomputable def c13 (l : List Flt) (m : Int) (K : AV → List AV → Prop) : Prop :=
    Obl (0 ≤ m ∧ m + ((totFs l : Nat) : Int) ≤ 4611686018427387904) (K (.int .i64 (m + ((totFs l : Nat) : Int))) [.wr .flt (mkFs l m)])
noncomputable def C13 : List AV → (AV → List AV → Prop) → Prop
  | [.tup [.wr .flt l], .int .i64 m], K => c13 l m K
  | _, _ => False
theorem s13 : CtrOK Tryz.prog 13 (.gen .ln C13) ∧ Callable Tryz.prog 13 := by
  refine ⟨fun vs K h => ?_, callable Tryz.func13 (by kernel_rfl) (by kernel_rfl)⟩
  unfold C13 at h
  split at h
  case h_2 => exact h.elim
  unfold c13 at h
  obtain ⟨h1, h2⟩ := h
  exact fun w γ S xs hi hn hf ht hS => snd_markW h2 (fun w x bs hd hn ht htb => kmarkFilterS _ _ w x bs hd hn ht htb h1.1 h1.2) hi hn hf ht hS
noncomputable def c12 (l : List It) (c : Int) (m : Int) (K : AV → List AV → Prop) : Prop :=
    Obl (0 ≤ m ∧ m + ((totIs l : Nat) : Int) ≤ 4611686018427387904) (K (.int .i64 (m + ((totIs l : Nat) : Int))) [.wr .item (mkIs l m)])
noncomputable def C12 : List AV → (AV → List AV → Prop) → Prop
  | [.tup [.st [.wr .item l, .int .i64 c]], .int .i64 m], K => c12 l c m K
  | _, _ => False
noncomputable def E12 : Ctx := mkE tab [(29, .gen .ln C29)]
noncomputable def O12 : Nat → List DI := ordL []
theorem a12 (l : List It) (c : Int) (m : Int) (hb : BdAs [.tup [.st [.wr .item l, .int .i64 c]], .int .i64 m]) (K : AV → List AV → Prop) (h : c12 l c m K) : abody E12 O12 .ow Tryz.f12 (Tryz.f12.body.getD .skip) [.tup [.st [.wr .item l, .int .i64 c]], .int .i64 m] K := by
  simp only [BdAs, BdA, BdL, BdC, MX, ndC, shC, itC, stC, opC, chC, nwC, flC, rqC, rsC, enc, List.cons_append, List.nil_append, and_true, true_and] at hb
  unfold c12 at h
  obtain ⟨hs, hK⟩ := h
  conv => whnf
  repeat' first|(refine Cnd.mk (fun h=>?_) (fun h=>?_)<;>(try simp [etas,elDef,-List.getD_eq_getElem?_getD] at h)<;>conv=>whnf)|(refine Obl.mk (by first|omega|rfl|exact inK_byte _|(simp only [inK,Int.toNat_natCast,etas,elDef]<;>first|omega|grind)|grind [inK]) ?_<;>conv=>whnf)|(refine OblG.mk (by ((conv=>whnf);(repeat (first|(refine Bx.mk ?_)|(intro h;(try simp [etas,elDef,-List.getD_eq_getElem?_getD] at h);conv=>whnf)));(first|omega|rfl|exact inK_byte _|(simp only [inK,Int.toNat_natCast,etas,elDef]<;>first|omega|grind)|grind [inK]))) ?_<;>conv=>whnf)|(refine Gd.mk (fun h=>?_)<;>(try simp [etas,elDef,-List.getD_eq_getElem?_getD] at h)<;>conv=>whnf)|(refine And.intro ?_ ?_<;>conv=>whnf)|exact True.intro|(intro;conv=>whnf)
  all_goals exact leafV hK rfl
theorem s12 : (CtrOK Tryz.prog 12 (.gen .ln C12) ∧ Callable Tryz.prog 12) := by
  refine gen_ok (E := E12) (mkE_cons s29 (mkE_nil tab_ok)) mix (O := O12) (C := C12) (own := .ow) Tryz.func12 rfl (by rfl) (by kernel_rfl) (fun args K h hbd => ?_)
  unfold C12 at h; split at h
  case h_2 => exact h.elim
  exact ⟨Nat.le_of_ble_eq_true rfl, a12 _ _ _ (by exact hbd) _ h⟩
end Go.Rs

