import Derived.Test.YtfaaemggaliojaaDoorEN
import Derived.Test.YtfaaemggaliojaaDoorKN
import Derived.Test.YtfaaemggaliojaaDoorKI
import Derived.Test.YtfaaemggaliojaaDoorKF
import Derived.Test.YtfaaemggaliojaaDoorEK
import Derived.Test.YtfaaemggaliojaaDoorEF
set_option linter.all false
set_option linter.unusedSimpArgs false
set_option linter.unusedVariables false
namespace Go.Rs
open Go.Proofs Go.RowKit
set_option maxRecDepth 100000
def stW (s : Sto) : List AV := [.wr .item s.items, .int .i64 s.clock]
noncomputable def c53d (x : It) (K : AV → List AV → Prop) : Prop :=
    Obl (smN x.node) (K (.st (itD x)) [])
noncomputable def D53d : List AV → (AV → List AV → Prop) → Prop
  | [.st [.str x_0, .int .i64 x_1, .int .i64 x_2_0, .int .i64 x_2_1, .str x_2_2, .ps .str x_2_3, .ps .node x_2_4]], K => c53d ⟨x_0, x_1, ⟨x_2_0, x_2_1, x_2_2, x_2_3, x_2_4⟩⟩ K
  | _, _ => False
noncomputable def C53d (args : List AV) (K : AV → List AV → Prop) : Prop := D53d (fixAs args) K
noncomputable def E53d : Ctx := mkE tab [(55, .gen .ow C55d)]
noncomputable def O53d : Nat → List DI := ordL []
theorem a53d (x : It) (hb : BdAs [.st (itC x)]) (K : AV → List AV → Prop) (h : c53d x K) : abodyD E53d O53d .ow Tryd.f53 (Tryd.f53.body.getD .skip) [.st (itC x)] (fun r rs => K (fixR r) (fixAs rs)) := by
  simp only [BdAs, BdA, BdL, BdC, MX, ndC, shC, itC, stC, opC, chC, nwC, flC, rqC, rsC, enc, List.cons_append, List.nil_append, and_true, true_and] at hb
  unfold c53d at h
  obtain ⟨hs, hK⟩ := h
  conv => whnf
  repeat' first|((first|refine Cnd.mk (fun h=>?_) (fun h=>?_)|refine Gd.mk (fun h=>?_))<;>(try simp [etas,elDef,-List.getD_eq_getElem?_getD] at h)<;>conv=>whnf)|((first|refine Obl.mk (by first|omega|rfl|exact inK_byte _|(simp only [inK,Int.toNat_natCast,etas,elDef,m55d]<;>first|omega|grind)|grind [inK,m55d]) ?_|refine OblG.mk (by ((conv=>whnf);(repeat (first|refine Bx.mk ?_|(intro h;(try simp [etas,elDef,-List.getD_eq_getElem?_getD] at h);conv=>whnf)));(first|omega|rfl|exact inK_byte _|(simp only [inK,Int.toNat_natCast,etas,elDef,m55d]<;>first|omega|grind)|grind [inK,m55d]))) ?_|refine And.intro ?_ ?_)<;>conv=>whnf)|exact True.intro|(intro;conv=>whnf)
  all_goals exact leafV hK rfl
theorem s53d : (CtrOK Tryd.prog 53 (.gen .ow C53d) ∧ Callable Tryd.prog 53) := by
  refine gen_okD (E := E53d) (mkE_cons s55d (mkE_nil tab_ok)) mix (O := O53d) (D := D53d) (own := .ow) Tryd.func53 rfl (by rfl) (by kernel_rfl) (fun args K h hbd => ?_)
  unfold D53d at h; split at h
  case h_2 => exact h.elim
  exact ⟨Nat.le_of_ble_eq_true rfl, a53d ⟨_, _, ⟨_, _, _, _, _⟩⟩ (by exact hbd) _ h⟩
noncomputable def c26d (l : List It) (K : AV → List AV → Prop) : Prop :=
    Obl (smIs l) (K (.dp .item l) [])
noncomputable def D26d : List AV → (AV → List AV → Prop) → Prop
  | [.ps .item l], K => c26d l K
  | _, _ => False
noncomputable def C26d (args : List AV) (K : AV → List AV → Prop) : Prop := D26d (fixAs args) K
noncomputable def E26d : Ctx := mkE tab [(53, .gen .ow C53d)]
noncomputable def O26d : Nat → List DI := ordL []
theorem a26d (l : List It) (hb : BdAs [.ps .item l]) (K : AV → List AV → Prop) (h : c26d l K) : abodyD E26d O26d .ow Tryd.f26 (Tryd.f26.body.getD .skip) [.ps .item l] (fun r rs => K (fixR r) (fixAs rs)) := by
  simp only [BdAs, BdA, BdL, BdC, MX, ndC, shC, itC, stC, opC, chC, nwC, flC, rqC, rsC, enc, List.cons_append, List.nil_append, and_true, true_and] at hb
  unfold c26d at h
  obtain ⟨hs, hK⟩ := h
  have hkid : ∀ j, j < l.length → smN (l.getD j default).node := fun j hj => hs.kid hj
  have h3 := hs.1
  conv => whnf
  repeat' first|((first|refine Cnd.mk (fun h=>?_) (fun h=>?_)|refine Gd.mk (fun h=>?_))<;>(try simp [etas,elDef,-List.getD_eq_getElem?_getD] at h)<;>conv=>whnf)|((first|refine Obl.mk (by first|omega|rfl|exact inK_byte _|(simp only [inK,Int.toNat_natCast,etas,elDef]<;>first|omega|grind)|grind [inK]) ?_|refine OblG.mk (by ((conv=>whnf);(repeat (first|refine Bx.mk ?_|(intro h;(try simp [etas,elDef,-List.getD_eq_getElem?_getD] at h);conv=>whnf)));(first|omega|rfl|exact inK_byte _|(simp only [inK,Int.toNat_natCast,etas,elDef]<;>first|omega|grind)|grind [inK]))) ?_|refine And.intro ?_ ?_)<;>conv=>whnf)|exact True.intro|(intro;conv=>whnf)
  refine aloop_intro Nat (fun k => k ≤ l.length ∧ True) (fun k => l.length - k) (fun k => [(4, .int .i64 k)]) (fun k => [(7, .tree .item (fillD default l k))]) [] 0 [] [] ?_ ?_ (by exact sgOk_of (by rfl)) ?_
  · first | (simp; done) | (simp; assumption)
  · iterate 2 ((all_goals (conv=>whnf));(repeat' (first|exact trivial|rfl|(refine nilEq ?_;first|rfl|(simp only [*];done)|(simp [*];done)|grind)|apply And.intro|((first|apply intEq|apply boolEq|apply strEq|apply psEq|apply nilEq|apply arrEq);(try simp only [Int.toNat_natCast,etas,elDef]);first | done | omega | grind | (simp only [*]; done) | (simp [*]; done)))));(all_goals ((try simp only [Int.toNat_natCast,etas,elDef]);first | done | omega | grind | (simp only [*]; done) | (simp [*]; done)))
  rintro i ⟨hi, hj⟩
  conv => whnf
  have hl := fillD_len default l hi
  have hset := fun h => fillD_set default l (k := i) h
  repeat' first|((first|refine Cnd.mk (fun h=>?_) (fun h=>?_)|refine Gd.mk (fun h=>?_))<;>(try simp [etas,elDef,-List.getD_eq_getElem?_getD] at h)<;>conv=>whnf)|((first|refine Obl.mk (by first|omega|rfl|exact inK_byte _|(simp only [inK,Int.toNat_natCast,etas,elDef]<;>first|omega|grind)|grind [inK]) ?_|refine OblG.mk (by ((conv=>whnf);(repeat (first|refine Bx.mk ?_|(intro h;(try simp [etas,elDef,-List.getD_eq_getElem?_getD] at h);conv=>whnf)));(first|omega|rfl|exact inK_byte _|(simp only [inK,Int.toNat_natCast,etas,elDef]<;>first|omega|grind)|grind [inK]))) ?_|refine And.intro ?_ ?_)<;>conv=>whnf)|exact True.intro|(intro;conv=>whnf)
  · exact ⟨i + 1, [], [], ⟨by omega, by grind⟩, by omega, by iterate 2 ((all_goals (conv=>whnf));(repeat' (first|exact trivial|rfl|(refine nilEq ?_;first|rfl|(simp only [*];done)|(simp [*];done)|grind)|apply And.intro|((first|apply intEq|apply boolEq|apply strEq|apply psEq|apply nilEq|apply arrEq);(try simp only [Int.toNat_natCast,etas,elDef]);first | done | omega | grind | (simp only [*]; done) | (simp [*]; done)))));(all_goals ((try simp only [Int.toNat_natCast,etas,elDef]);first | done | omega | grind | (simp only [*]; done) | (simp [*]; done))), (by exact sgOk_of (by rfl))⟩
  · exact leafV hK (by simp_all [fixR, fixV, fixL, fix1, deepE, fillD_all default l ‹l.length ≤ i›])
theorem s26d : (CtrOK Tryd.prog 26 (.gen .ow C26d) ∧ Callable Tryd.prog 26) := by
  refine gen_okD (E := E26d) (mkE_cons s53d (mkE_nil tab_ok)) mix (O := O26d) (D := D26d) (own := .ow) Tryd.func26 rfl (by rfl) (by kernel_rfl) (fun args K h hbd => ?_)
  unfold D26d at h; split at h
  case h_2 => exact h.elim
  exact ⟨Nat.le_of_ble_eq_true rfl, a26d _ (by exact hbd) _ h⟩
noncomputable def c8d (s : Sto) (K : AV → List AV → Prop) : Prop :=
    Obl (smIs s.items) (K (.st [.dp .item s.items, .int .i64 s.clock]) [])
noncomputable def D8d : List AV → (AV → List AV → Prop) → Prop
  | [.st [.ps .item s_0, .int .i64 s_1]], K => c8d ⟨s_0, s_1⟩ K
  | _, _ => False
noncomputable def C8d (args : List AV) (K : AV → List AV → Prop) : Prop := D8d (fixAs args) K
noncomputable def E8d : Ctx := mkE tab [(26, .gen .ow C26d)]
noncomputable def O8d : Nat → List DI := ordL []
theorem a8d (s : Sto) (hb : BdAs [.st (stC s)]) (K : AV → List AV → Prop) (h : c8d s K) : abodyD E8d O8d .ow Tryd.f8 (Tryd.f8.body.getD .skip) [.st (stC s)] (fun r rs => K (fixR r) (fixAs rs)) := by
  simp only [BdAs, BdA, BdL, BdC, MX, ndC, shC, itC, stC, opC, chC, nwC, flC, rqC, rsC, enc, List.cons_append, List.nil_append, and_true, true_and] at hb
  unfold c8d at h
  obtain ⟨hs, hK⟩ := h
  conv => whnf
  repeat' first|((first|refine Cnd.mk (fun h=>?_) (fun h=>?_)|refine Gd.mk (fun h=>?_))<;>(try simp [etas,elDef,-List.getD_eq_getElem?_getD] at h)<;>conv=>whnf)|((first|refine Obl.mk (by first|omega|rfl|exact inK_byte _|(simp only [inK,Int.toNat_natCast,etas,elDef]<;>first|omega|grind)|grind [inK]) ?_|refine OblG.mk (by ((conv=>whnf);(repeat (first|refine Bx.mk ?_|(intro h;(try simp [etas,elDef,-List.getD_eq_getElem?_getD] at h);conv=>whnf)));(first|omega|rfl|exact inK_byte _|(simp only [inK,Int.toNat_natCast,etas,elDef]<;>first|omega|grind)|grind [inK]))) ?_|refine And.intro ?_ ?_)<;>conv=>whnf)|exact True.intro|(intro;conv=>whnf)
  all_goals exact leafV hK rfl
theorem s8d : (CtrOK Tryd.prog 8 (.gen .ow C8d) ∧ Callable Tryd.prog 8) := by
  refine gen_okD (E := E8d) (mkE_cons s26d (mkE_nil tab_ok)) mix (O := O8d) (D := D8d) (own := .ow) Tryd.func8 rfl (by rfl) (by kernel_rfl) (fun args K h hbd => ?_)
  unfold D8d at h; split at h
  case h_2 => exact h.elim
  exact ⟨Nat.le_of_ble_eq_true rfl, a8d ⟨_, _⟩ (by exact hbd) _ h⟩
noncomputable def c8r (s : Sto) (K : AV → List AV → Prop) : Prop :=
    Obl (smIs s.items) (K (.st (stW s)) [])
noncomputable def C8r : List AV → (AV → List AV → Prop) → Prop
  | [.st [.ps .item s_0, .int .i64 s_1]], K => c8r ⟨s_0, s_1⟩ K
  | _, _ => False
theorem s8r : CtrOK Tryd.prog 8 (.gen .ow C8r) ∧ Callable Tryd.prog 8 := by
  refine ⟨Snd.of (Snd.lend s8d.1) fun vs K h => ?_, s8d.2⟩
  unfold C8r at h
  split at h
  case h_2 => exact h.elim
  unfold c8r at h
  exact ⟨rfl, h.1, rfl, rfl, h.2⟩
noncomputable def c16 (l : List Bs) (m : Int) (K : AV → List AV → Prop) : Prop :=
    Obl (0 ≤ m ∧ m + (l.length : Int) ≤ 4611686018427387904) (K (.int .i64 (m + (l.length : Int))) [.own .str (mkS l m)])
noncomputable def C16 : List AV → (AV → List AV → Prop) → Prop
  | [.tup [.own .str l], .int .i64 m], K => c16 l m K
  | _, _ => False
theorem s16 : CtrOK Tryd.prog 16 (.gen .ln C16) ∧ Callable Tryd.prog 16 := by
  refine ⟨fun vs K h => ?_, callable Tryd.func16 (by kernel_rfl) (by kernel_rfl)⟩
  unfold C16 at h
  split at h
  case h_2 => exact h.elim
  unfold c16 at h
  obtain ⟨h1, h2⟩ := h
  exact fun w γ S xs hi hn hf ht hS => snd_markO rfl h2 (fun w x bs hd hn ht htb => kmarkStringS _ _ w x bs hd hn ht htb h1.1 h1.2) hi hn hf ht hS
noncomputable def c31 (l : List It) (m : Int) (K : AV → List AV → Prop) : Prop :=
    Obl (0 ≤ m ∧ m + ((totIs l : Nat) : Int) ≤ 4611686018427387904) (K (.int .i64 (m + ((totIs l : Nat) : Int))) [.wr .item (mkIs l m)])
noncomputable def C31 : List AV → (AV → List AV → Prop) → Prop
  | [.tup [.wr .item l], .int .i64 m], K => c31 l m K
  | _, _ => False
theorem s31 : CtrOK Tryd.prog 31 (.gen .ln C31) ∧ Callable Tryd.prog 31 := by
  refine ⟨fun vs K h => ?_, callable Tryd.func31 (by kernel_rfl) (by kernel_rfl)⟩
  unfold C31 at h
  split at h
  case h_2 => exact h.elim
  unfold c31 at h
  obtain ⟨h1, h2⟩ := h
  exact fun w γ S xs hi hn hf ht hS => snd_markW h2 (fun w x bs hd hn ht htb => kmarkItemS _ _ w x bs hd hn ht htb h1.1 h1.2) hi hn hf ht hS
noncomputable def c15 (l : List Flt) (m : Int) (K : AV → List AV → Prop) : Prop :=
    Obl (0 ≤ m ∧ m + ((totFs l : Nat) : Int) ≤ 4611686018427387904) (K (.int .i64 (m + ((totFs l : Nat) : Int))) [.wr .flt (mkFs l m)])
noncomputable def C15 : List AV → (AV → List AV → Prop) → Prop
  | [.tup [.wr .flt l], .int .i64 m], K => c15 l m K
  | _, _ => False
theorem s15 : CtrOK Tryd.prog 15 (.gen .ln C15) ∧ Callable Tryd.prog 15 := by
  refine ⟨fun vs K h => ?_, callable Tryd.func15 (by kernel_rfl) (by kernel_rfl)⟩
  unfold C15 at h
  split at h
  case h_2 => exact h.elim
  unfold c15 at h
  obtain ⟨h1, h2⟩ := h
  exact fun w γ S xs hi hn hf ht hS => snd_markW h2 (fun w x bs hd hn ht htb => kmarkFilterS _ _ w x bs hd hn ht htb h1.1 h1.2) hi hn hf ht hS
noncomputable def c14 (l : List It) (c : Int) (m : Int) (K : AV → List AV → Prop) : Prop :=
    Obl (0 ≤ m ∧ m + ((totIs l : Nat) : Int) ≤ 4611686018427387904) (K (.int .i64 (m + ((totIs l : Nat) : Int))) [.wr .item (mkIs l m)])
noncomputable def C14 : List AV → (AV → List AV → Prop) → Prop
  | [.tup [.st [.wr .item l, .int .i64 c]], .int .i64 m], K => c14 l c m K
  | _, _ => False
noncomputable def E14 : Ctx := mkE tab [(31, .gen .ln C31)]
noncomputable def O14 : Nat → List DI := ordL []
theorem a14 (l : List It) (c : Int) (m : Int) (hb : BdAs [.tup [.st [.wr .item l, .int .i64 c]], .int .i64 m]) (K : AV → List AV → Prop) (h : c14 l c m K) : abody E14 O14 .ow Tryd.f14 (Tryd.f14.body.getD .skip) [.tup [.st [.wr .item l, .int .i64 c]], .int .i64 m] K := by
  simp only [BdAs, BdA, BdL, BdC, MX, ndC, shC, itC, stC, opC, chC, nwC, flC, rqC, rsC, enc, List.cons_append, List.nil_append, and_true, true_and] at hb
  unfold c14 at h
  obtain ⟨hs, hK⟩ := h
  conv => whnf
  repeat' first|((first|refine Cnd.mk (fun h=>?_) (fun h=>?_)|refine Gd.mk (fun h=>?_))<;>(try simp [etas,elDef,-List.getD_eq_getElem?_getD] at h)<;>conv=>whnf)|((first|refine Obl.mk (by first|omega|rfl|exact inK_byte _|(simp only [inK,Int.toNat_natCast,etas,elDef]<;>first|omega|grind)|grind [inK]) ?_|refine OblG.mk (by ((conv=>whnf);(repeat (first|refine Bx.mk ?_|(intro h;(try simp [etas,elDef,-List.getD_eq_getElem?_getD] at h);conv=>whnf)));(first|omega|rfl|exact inK_byte _|(simp only [inK,Int.toNat_natCast,etas,elDef]<;>first|omega|grind)|grind [inK]))) ?_|refine And.intro ?_ ?_)<;>conv=>whnf)|exact True.intro|(intro;conv=>whnf)
  all_goals exact leafV hK rfl
theorem s14 : (CtrOK Tryd.prog 14 (.gen .ln C14) ∧ Callable Tryd.prog 14) := by
  refine gen_ok (E := E14) (mkE_cons s31 (mkE_nil tab_ok)) mix (O := O14) (C := C14) (own := .ow) Tryd.func14 rfl (by rfl) (by kernel_rfl) (fun args K h hbd => ?_)
  unfold C14 at h; split at h
  case h_2 => exact h.elim
  exact ⟨Nat.le_of_ble_eq_true rfl, a14 _ _ _ (by exact hbd) _ h⟩
end Go.Rs

