import Derived.Test.YtmgheiagnleeiaaRB
import Derived.Test.YtmgheiagnleeiaaEK
import Derived.Test.YtmgheiagnleeiaaER
import Derived.Test.YtmgheiagnleeiaaKO
import Derived.Test.YtmgheiagnleeiaaKQ
import Derived.Test.YtmgheiagnleeiaaMJ
set_option linter.all false
set_option linter.unusedSimpArgs false
set_option linter.unusedVariables false
namespace Go.Rs
open Go.Proofs Go.RowKit
set_option maxRecDepth 100000
def opD (x : Opn) : List AV := .int .i64 x.kind :: .own .str x.path :: .own .str x.frm :: ndD x.value
def rqD (x : Req) : List AV := .int .i64 x.method :: .str x.name :: .own .str x.want :: .own .str x.avoid :: (ndD x.body ++ [.dp .opn x.ops])
noncomputable def c45d (x : Opn) (K : AV → List AV → Prop) : Prop :=
    Obl (smO x) (K (.st (opD x)) [])
noncomputable def D45d : List AV → (AV → List AV → Prop) → Prop
  | [.st [.int .i64 x_0, .ps .str x_1, .ps .str x_2, .int .i64 x_3_0, .int .i64 x_3_1, .str x_3_2, .ps .str x_3_3, .ps .node x_3_4]], K => c45d ⟨x_0, x_1, x_2, ⟨x_3_0, x_3_1, x_3_2, x_3_3, x_3_4⟩⟩ K
  | _, _ => False
noncomputable def C45d (args : List AV) (K : AV → List AV → Prop) : Prop := D45d (fixAs args) K
noncomputable def E45d : Ctx := mkE tab [(29, .gen .ow C29d), (30, .gen .ow C30d)]
noncomputable def O45d : Nat → List DI := ordL []
theorem a45d (x : Opn) (hb : BdAs [.st (opC x)]) (K : AV → List AV → Prop) (h : c45d x K) : abodyD E45d O45d .ow Try.f45 (Try.f45.body.getD .skip) [.st (opC x)] (fun r rs => K (fixR r) (fixAs rs)) := by
  simp only [BdAs, BdA, BdL, BdC, MX, ndC, shC, itC, stC, opC, chC, nwC, flC, rqC, rsC, enc, List.cons_append, List.nil_append, and_true, true_and] at hb
  unfold c45d at h
  obtain ⟨hs, hK⟩ := h
  have hs1 := hs.1
  have hs2 := hs.2.1
  have hs3 := hs.2.2
  conv => whnf
  repeat' first|((first|refine Cnd.mk (fun h=>?_) (fun h=>?_)|refine Gd.mk (fun h=>?_))<;>(try simp [etas,elDef,-List.getD_eq_getElem?_getD] at h)<;>conv=>whnf)|((first|refine Obl.mk (by first|omega|rfl|exact inK_byte _|(simp only [inK,Int.toNat_natCast,etas,elDef,m30d]<;>first|omega|grind)|grind [inK,m30d]) ?_|refine OblG.mk (by ((conv=>whnf);(repeat (first|refine Bx.mk ?_|(intro h;(try simp [etas,elDef,-List.getD_eq_getElem?_getD] at h);conv=>whnf)));(first|omega|rfl|exact inK_byte _|(simp only [inK,Int.toNat_natCast,etas,elDef,m30d]<;>first|omega|grind)|grind [inK,m30d]))) ?_|refine And.intro ?_ ?_)<;>conv=>whnf)|exact True.intro|(intro;conv=>whnf)
  all_goals exact leafV hK rfl
theorem s45d : (CtrOK Try.prog 45 (.gen .ow C45d) ∧ Callable Try.prog 45) := by
  refine gen_okD (E := E45d) (mkE_cons s29d (mkE_cons s30d (mkE_nil tab_ok))) mix (O := O45d) (D := D45d) (own := .ow) Try.func45 rfl (by rfl) (by kernel_rfl) (fun args K h hbd => ?_)
  unfold D45d at h; split at h
  case h_2 => exact h.elim
  exact ⟨Nat.le_of_ble_eq_true rfl, a45d ⟨_, _, _, ⟨_, _, _, _, _⟩⟩ (by exact hbd) _ h⟩
noncomputable def c31d (l : List Opn) (K : AV → List AV → Prop) : Prop :=
    Obl (smOs l) (K (.dp .opn l) [])
noncomputable def D31d : List AV → (AV → List AV → Prop) → Prop
  | [.ps .opn l], K => c31d l K
  | _, _ => False
noncomputable def C31d (args : List AV) (K : AV → List AV → Prop) : Prop := D31d (fixAs args) K
noncomputable def E31d : Ctx := mkE tab [(45, .gen .ow C45d)]
noncomputable def O31d : Nat → List DI := ordL []
theorem a31d (l : List Opn) (hb : BdAs [.ps .opn l]) (K : AV → List AV → Prop) (h : c31d l K) : abodyD E31d O31d .ow Try.f31 (Try.f31.body.getD .skip) [.ps .opn l] (fun r rs => K (fixR r) (fixAs rs)) := by
  simp only [BdAs, BdA, BdL, BdC, MX, ndC, shC, itC, stC, opC, chC, nwC, flC, rqC, rsC, enc, List.cons_append, List.nil_append, and_true, true_and] at hb
  unfold c31d at h
  obtain ⟨hs, hK⟩ := h
  have hkid : ∀ j, j < l.length → smO (l.getD j default) := fun j hj => hs.kid hj
  have h3 := hs.1
  conv => whnf
  repeat' first|((first|refine Cnd.mk (fun h=>?_) (fun h=>?_)|refine Gd.mk (fun h=>?_))<;>(try simp [etas,elDef,-List.getD_eq_getElem?_getD] at h)<;>conv=>whnf)|((first|refine Obl.mk (by first|omega|rfl|exact inK_byte _|(simp only [inK,Int.toNat_natCast,etas,elDef]<;>first|omega|grind)|grind [inK]) ?_|refine OblG.mk (by ((conv=>whnf);(repeat (first|refine Bx.mk ?_|(intro h;(try simp [etas,elDef,-List.getD_eq_getElem?_getD] at h);conv=>whnf)));(first|omega|rfl|exact inK_byte _|(simp only [inK,Int.toNat_natCast,etas,elDef]<;>first|omega|grind)|grind [inK]))) ?_|refine And.intro ?_ ?_)<;>conv=>whnf)|exact True.intro|(intro;conv=>whnf)
  refine aloop_intro Nat (fun k => k ≤ l.length ∧ True) (fun k => l.length - k) (fun k => [(4, .int .i64 k)]) (fun k => [(7, .tree .opn (fillD default l k))]) [] 0 [] [] ?_ ?_ (by exact sgOk_of (by rfl)) ?_
  · first | (simp; done) | (simp; assumption)
  · iterate 2 ((all_goals (conv=>whnf));(repeat' (first|exact trivial|rfl|(refine nilEq ?_;first|rfl|(simp only [*];done)|(simp [*];done)|grind)|apply And.intro|((first|apply intEq|apply boolEq|apply strEq|apply psEq|apply nilEq|apply arrEq);(try simp only [Int.toNat_natCast,etas,elDef]);first | done | omega | grind | (simp only [*]; done) | (simp [*]; done)))));(all_goals ((try simp only [Int.toNat_natCast,etas,elDef]);first | done | omega | grind | (simp only [*]; done) | (simp [*]; done)))
  rintro i ⟨hi, hj⟩
  conv => whnf
  have hl := fillD_len default l hi
  have hset := fun h => fillD_set default l (k := i) h
  repeat' first|((first|refine Cnd.mk (fun h=>?_) (fun h=>?_)|refine Gd.mk (fun h=>?_))<;>(try simp [etas,elDef,-List.getD_eq_getElem?_getD] at h)<;>conv=>whnf)|((first|refine Obl.mk (by first|omega|rfl|exact inK_byte _|(simp only [inK,Int.toNat_natCast,etas,elDef]<;>first|omega|grind)|grind [inK]) ?_|refine OblG.mk (by ((conv=>whnf);(repeat (first|refine Bx.mk ?_|(intro h;(try simp [etas,elDef,-List.getD_eq_getElem?_getD] at h);conv=>whnf)));(first|omega|rfl|exact inK_byte _|(simp only [inK,Int.toNat_natCast,etas,elDef]<;>first|omega|grind)|grind [inK]))) ?_|refine And.intro ?_ ?_)<;>conv=>whnf)|exact True.intro|(intro;conv=>whnf)
  · exact ⟨i + 1, [], [], ⟨by omega, by grind⟩, by omega, by iterate 2 ((all_goals (conv=>whnf));(repeat' (first|exact trivial|rfl|(refine nilEq ?_;first|rfl|(simp only [*];done)|(simp [*];done)|grind)|apply And.intro|((first|apply intEq|apply boolEq|apply strEq|apply psEq|apply nilEq|apply arrEq);(try simp only [Int.toNat_natCast,etas,elDef]);first | done | omega | grind | (simp only [*]; done) | (simp [*]; done)))));(all_goals ((try simp only [Int.toNat_natCast,etas,elDef]);first | done | omega | grind | (simp only [*]; done) | (simp [*]; done))), (by exact sgOk_of (by rfl))⟩
  · exact leafV hK (by simp_all [fixR, fixV, fixL, fix1, deepE, fillD_all default l ‹l.length ≤ i›])
theorem s31d : (CtrOK Try.prog 31 (.gen .ow C31d) ∧ Callable Try.prog 31) := by
  refine gen_okD (E := E31d) (mkE_cons s45d (mkE_nil tab_ok)) mix (O := O31d) (D := D31d) (own := .ow) Try.func31 rfl (by rfl) (by kernel_rfl) (fun args K h hbd => ?_)
  unfold D31d at h; split at h
  case h_2 => exact h.elim
  exact ⟨Nat.le_of_ble_eq_true rfl, a31d _ (by exact hbd) _ h⟩
noncomputable def c16d (x : Req) (K : AV → List AV → Prop) : Prop :=
    Obl (smR x) (K (.st (rqD x)) [])
noncomputable def D16d : List AV → (AV → List AV → Prop) → Prop
  | [.st [.int .i64 x_0, .str x_1, .ps .str x_2, .ps .str x_3, .int .i64 x_4_0, .int .i64 x_4_1, .str x_4_2, .ps .str x_4_3, .ps .node x_4_4, .ps .opn x_5]], K => c16d ⟨x_0, x_1, x_2, x_3, ⟨x_4_0, x_4_1, x_4_2, x_4_3, x_4_4⟩, x_5⟩ K
  | _, _ => False
noncomputable def C16d (args : List AV) (K : AV → List AV → Prop) : Prop := D16d (fixAs args) K
noncomputable def E16d : Ctx := mkE tab [(29, .gen .ow C29d), (30, .gen .ow C30d), (31, .gen .ow C31d)]
noncomputable def O16d : Nat → List DI := ordL []
theorem a16d (x : Req) (hb : BdAs [.st (rqC x)]) (K : AV → List AV → Prop) (h : c16d x K) : abodyD E16d O16d .ow Try.f16 (Try.f16.body.getD .skip) [.st (rqC x)] (fun r rs => K (fixR r) (fixAs rs)) := by
  simp only [BdAs, BdA, BdL, BdC, MX, ndC, shC, itC, stC, opC, chC, nwC, flC, rqC, rsC, enc, List.cons_append, List.nil_append, and_true, true_and] at hb
  unfold c16d at h
  obtain ⟨hs, hK⟩ := h
  have hs1 := hs.1
  have hs2 := hs.2.1
  have hs3 := hs.2.2.1
  have hs4 := hs.2.2.2
  conv => whnf
  repeat' first|((first|refine Cnd.mk (fun h=>?_) (fun h=>?_)|refine Gd.mk (fun h=>?_))<;>(try simp [etas,elDef,-List.getD_eq_getElem?_getD] at h)<;>conv=>whnf)|((first|refine Obl.mk (by first|omega|rfl|exact inK_byte _|(simp only [inK,Int.toNat_natCast,etas,elDef,m30d]<;>first|omega|grind)|grind [inK,m30d]) ?_|refine OblG.mk (by ((conv=>whnf);(repeat (first|refine Bx.mk ?_|(intro h;(try simp [etas,elDef,-List.getD_eq_getElem?_getD] at h);conv=>whnf)));(first|omega|rfl|exact inK_byte _|(simp only [inK,Int.toNat_natCast,etas,elDef,m30d]<;>first|omega|grind)|grind [inK,m30d]))) ?_|refine And.intro ?_ ?_)<;>conv=>whnf)|exact True.intro|(intro;conv=>whnf)
  all_goals exact leafV hK rfl
theorem s16d : (CtrOK Try.prog 16 (.gen .ow C16d) ∧ Callable Try.prog 16) := by
  refine gen_okD (E := E16d) (mkE_cons s29d (mkE_cons s30d (mkE_cons s31d (mkE_nil tab_ok)))) mix (O := O16d) (D := D16d) (own := .ow) Try.func16 rfl (by rfl) (by kernel_rfl) (fun args K h hbd => ?_)
  unfold D16d at h; split at h
  case h_2 => exact h.elim
  exact ⟨Nat.le_of_ble_eq_true rfl, a16d ⟨_, _, _, _, ⟨_, _, _, _, _⟩, _⟩ (by exact hbd) _ h⟩
noncomputable def c6d (l : List Req) (K : AV → List AV → Prop) : Prop :=
    Obl (smRs l) (K (.dp .req l) [])
noncomputable def D6d : List AV → (AV → List AV → Prop) → Prop
  | [.ps .req l], K => c6d l K
  | _, _ => False
noncomputable def C6d (args : List AV) (K : AV → List AV → Prop) : Prop := D6d (fixAs args) K
noncomputable def E6d : Ctx := mkE tab [(16, .gen .ow C16d)]
noncomputable def O6d : Nat → List DI := ordL []
theorem a6d (l : List Req) (hb : BdAs [.ps .req l]) (K : AV → List AV → Prop) (h : c6d l K) : abodyD E6d O6d .ow Try.f6 (Try.f6.body.getD .skip) [.ps .req l] (fun r rs => K (fixR r) (fixAs rs)) := by
  simp only [BdAs, BdA, BdL, BdC, MX, ndC, shC, itC, stC, opC, chC, nwC, flC, rqC, rsC, enc, List.cons_append, List.nil_append, and_true, true_and] at hb
  unfold c6d at h
  obtain ⟨hs, hK⟩ := h
  have hkid : ∀ j, j < l.length → smR (l.getD j default) := fun j hj => hs.kid hj
  have h3 := hs.1
  conv => whnf
  repeat' first|((first|refine Cnd.mk (fun h=>?_) (fun h=>?_)|refine Gd.mk (fun h=>?_))<;>(try simp [etas,elDef,-List.getD_eq_getElem?_getD] at h)<;>conv=>whnf)|((first|refine Obl.mk (by first|omega|rfl|exact inK_byte _|(simp only [inK,Int.toNat_natCast,etas,elDef]<;>first|omega|grind)|grind [inK]) ?_|refine OblG.mk (by ((conv=>whnf);(repeat (first|refine Bx.mk ?_|(intro h;(try simp [etas,elDef,-List.getD_eq_getElem?_getD] at h);conv=>whnf)));(first|omega|rfl|exact inK_byte _|(simp only [inK,Int.toNat_natCast,etas,elDef]<;>first|omega|grind)|grind [inK]))) ?_|refine And.intro ?_ ?_)<;>conv=>whnf)|exact True.intro|(intro;conv=>whnf)
  refine aloop_intro Nat (fun k => k ≤ l.length ∧ True) (fun k => l.length - k) (fun k => [(4, .int .i64 k)]) (fun k => [(7, .tree .req (fillD default l k))]) [] 0 [] [] ?_ ?_ (by exact sgOk_of (by rfl)) ?_
  · first | (simp; done) | (simp; assumption)
  · iterate 2 ((all_goals (conv=>whnf));(repeat' (first|exact trivial|rfl|(refine nilEq ?_;first|rfl|(simp only [*];done)|(simp [*];done)|grind)|apply And.intro|((first|apply intEq|apply boolEq|apply strEq|apply psEq|apply nilEq|apply arrEq);(try simp only [Int.toNat_natCast,etas,elDef]);first | done | omega | grind | (simp only [*]; done) | (simp [*]; done)))));(all_goals ((try simp only [Int.toNat_natCast,etas,elDef]);first | done | omega | grind | (simp only [*]; done) | (simp [*]; done)))
  rintro i ⟨hi, hj⟩
  conv => whnf
  have hl := fillD_len default l hi
  have hset := fun h => fillD_set default l (k := i) h
  repeat' first|((first|refine Cnd.mk (fun h=>?_) (fun h=>?_)|refine Gd.mk (fun h=>?_))<;>(try simp [etas,elDef,-List.getD_eq_getElem?_getD] at h)<;>conv=>whnf)|((first|refine Obl.mk (by first|omega|rfl|exact inK_byte _|(simp only [inK,Int.toNat_natCast,etas,elDef]<;>first|omega|grind)|grind [inK]) ?_|refine OblG.mk (by ((conv=>whnf);(repeat (first|refine Bx.mk ?_|(intro h;(try simp [etas,elDef,-List.getD_eq_getElem?_getD] at h);conv=>whnf)));(first|omega|rfl|exact inK_byte _|(simp only [inK,Int.toNat_natCast,etas,elDef]<;>first|omega|grind)|grind [inK]))) ?_|refine And.intro ?_ ?_)<;>conv=>whnf)|exact True.intro|(intro;conv=>whnf)
  · exact ⟨i + 1, [], [], ⟨by omega, by grind⟩, by omega, by iterate 2 ((all_goals (conv=>whnf));(repeat' (first|exact trivial|rfl|(refine nilEq ?_;first|rfl|(simp only [*];done)|(simp [*];done)|grind)|apply And.intro|((first|apply intEq|apply boolEq|apply strEq|apply psEq|apply nilEq|apply arrEq);(try simp only [Int.toNat_natCast,etas,elDef]);first | done | omega | grind | (simp only [*]; done) | (simp [*]; done)))));(all_goals ((try simp only [Int.toNat_natCast,etas,elDef]);first | done | omega | grind | (simp only [*]; done) | (simp [*]; done))), (by exact sgOk_of (by rfl))⟩
  · exact leafV hK (by simp_all [fixR, fixV, fixL, fix1, deepE, fillD_all default l ‹l.length ≤ i›])
theorem s6d : (CtrOK Try.prog 6 (.gen .ow C6d) ∧ Callable Try.prog 6) := by
  refine gen_okD (E := E6d) (mkE_cons s16d (mkE_nil tab_ok)) mix (O := O6d) (D := D6d) (own := .ow) Try.func6 rfl (by rfl) (by kernel_rfl) (fun args K h hbd => ?_)
  unfold D6d at h; split at h
  case h_2 => exact h.elim
  exact ⟨Nat.le_of_ble_eq_true rfl, a6d _ (by exact hbd) _ h⟩
noncomputable def c6r (l : List Req) (K : AV → List AV → Prop) : Prop :=
    Obl (smRs l) (K (.wr .req l) [])
noncomputable def C6r : List AV → (AV → List AV → Prop) → Prop
  | [.ps .req l], K => c6r l K
  | _, _ => False
theorem s6r : CtrOK Try.prog 6 (.gen .ow C6r) ∧ Callable Try.prog 6 := by
  refine ⟨Snd.of (Snd.lend s6d.1) fun vs K h => ?_, s6d.2⟩
  unfold C6r at h
  split at h
  case h_2 => exact h.elim
  unfold c6r at h
  exact ⟨rfl, h.1, rfl, rfl, h.2⟩
noncomputable def c10 (l : List Req) (m : Int) (K : AV → List AV → Prop) : Prop :=
    Obl (0 ≤ m ∧ m + ((totRs l : Nat) : Int) ≤ 4611686018427387904) (K (.int .i64 (m + ((totRs l : Nat) : Int))) [.wr .req (mkRs l m)])
noncomputable def C10 : List AV → (AV → List AV → Prop) → Prop
  | [.tup [.wr .req l], .int .i64 m], K => c10 l m K
  | _, _ => False
theorem s10 : CtrOK Try.prog 10 (.gen .ln C10) ∧ Callable Try.prog 10 := by
  refine ⟨fun vs K h => ?_, callable Try.func10 (by kernel_rfl) (by kernel_rfl)⟩
  unfold C10 at h
  split at h
  case h_2 => exact h.elim
  unfold c10 at h
  obtain ⟨h1, h2⟩ := h
  exact fun w γ S xs hi hn hf ht hS => snd_markW h2 (fun w x bs hd hn ht htb => kmarkRequestS _ _ w x bs hd hn ht htb h1.1 h1.2) hi hn hf ht hS
end Go.Rs

