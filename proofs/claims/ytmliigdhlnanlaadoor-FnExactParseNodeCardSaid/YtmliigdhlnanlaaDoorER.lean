import Derived.Test.YtmliigdhlnanlaaDoorEN
import Derived.Test.YtmliigdhlnanlaaDoorKN
import Derived.Test.YtmliigdhlnanlaaDoorEK
import Derived.Test.YtmliigdhlnanlaaDoorEF
set_option linter.all false
set_option linter.unusedSimpArgs false
set_option linter.unusedVariables false
namespace Go.Rs
open Go.Proofs Go.RowKit
set_option maxRecDepth 100000
def ndW (n : Nd) : List AV := [.int .i64 n.kind, .int .i64 n.num, .str n.text, .own .str n.names, .wr .node n.kids]
noncomputable def c45 (l : List Bs) (m : Int) (K : AV → List AV → Prop) : Prop :=
    Obl (0 ≤ m ∧ m + (l.length : Int) ≤ 4611686018427387904) (K (.int .i64 (m + (l.length : Int))) [.own .str (mkS l m)])
noncomputable def C45 : List AV → (AV → List AV → Prop) → Prop
  | [.tup [.own .str l], .int .i64 m], K => c45 l m K
  | _, _ => False
theorem s45 : CtrOK Tryd.prog 45 (.gen .ln C45) ∧ Callable Tryd.prog 45 := by
  refine ⟨fun vs K h => ?_, callable Tryd.func45 (by kernel_rfl) (by kernel_rfl)⟩
  unfold C45 at h
  split at h
  case h_2 => exact h.elim
  unfold c45 at h
  obtain ⟨h1, h2⟩ := h
  exact fun w γ S xs hi hn hf ht hS => snd_markO rfl h2 (fun w x bs hd hn ht htb => kmarkStringS _ _ w x bs hd hn ht htb h1.1 h1.2) hi hn hf ht hS
noncomputable def c46 (l : List Nd) (m : Int) (K : AV → List AV → Prop) : Prop :=
    Obl (0 ≤ m ∧ m + ((totNs l : Nat) : Int) ≤ 4611686018427387904) (K (.int .i64 (m + ((totNs l : Nat) : Int))) [.wr .node (mkNs l m)])
noncomputable def C46 : List AV → (AV → List AV → Prop) → Prop
  | [.tup [.wr .node l], .int .i64 m], K => c46 l m K
  | _, _ => False
theorem s46 : CtrOK Tryd.prog 46 (.gen .ln C46) ∧ Callable Tryd.prog 46 := by
  refine ⟨fun vs K h => ?_, callable Tryd.func46 (by kernel_rfl) (by kernel_rfl)⟩
  unfold C46 at h
  split at h
  case h_2 => exact h.elim
  unfold c46 at h
  obtain ⟨h1, h2⟩ := h
  exact fun w γ S xs hi hn hf ht hS => snd_markW h2 (fun w x bs hd hn ht htb => kmarkNodeS _ _ w x bs hd hn ht htb h1.1 h1.2) hi hn hf ht hS
noncomputable def c21 (n1 : Int) (n2 : Int) (n3 : Bs) (n4 : List Bs) (n5 : List Nd) (m : Int) (K : AV → List AV → Prop) : Prop :=
    Obl (0 ≤ m ∧ m + (n4.length : Int) + ((totNs n5 : Nat) : Int) ≤ 4611686018427387904) (K (.int .i64 (m + (n4.length : Int) + ((totNs n5 : Nat) : Int))) [.own .str (mkS n4 m), .wr .node (mkNs n5 (m + (n4.length : Int)))])
noncomputable def C21 : List AV → (AV → List AV → Prop) → Prop
  | [.tup [.st [.int .i64 n1, .int .i64 n2, .str n3, .own .str n4, .wr .node n5]], .int .i64 m], K => c21 n1 n2 n3 n4 n5 m K
  | _, _ => False
noncomputable def E21 : Ctx := mkE tab [(45, .gen .ln C45), (46, .gen .ln C46)]
noncomputable def O21 : Nat → List DI := ordL []
theorem a21 (n1 : Int) (n2 : Int) (n3 : Bs) (n4 : List Bs) (n5 : List Nd) (m : Int) (hb : BdAs [.tup [.st [.int .i64 n1, .int .i64 n2, .str n3, .own .str n4, .wr .node n5]], .int .i64 m]) (K : AV → List AV → Prop) (h : c21 n1 n2 n3 n4 n5 m K) : abody E21 O21 .ow Tryd.f21 (Tryd.f21.body.getD .skip) [.tup [.st [.int .i64 n1, .int .i64 n2, .str n3, .own .str n4, .wr .node n5]], .int .i64 m] K := by
  simp only [BdAs, BdA, BdL, BdC, MX, ndC, shC, itC, stC, opC, chC, nwC, flC, rqC, rsC, enc, List.cons_append, List.nil_append, and_true, true_and] at hb
  unfold c21 at h
  obtain ⟨hs, hK⟩ := h
  conv => whnf
  repeat' first|((first|refine Cnd.mk (fun h=>?_) (fun h=>?_)|refine Gd.mk (fun h=>?_))<;>(try simp [etas,elDef,-List.getD_eq_getElem?_getD] at h)<;>conv=>whnf)|((first|refine Obl.mk (by first|omega|rfl|exact inK_byte _|(simp only [inK,Int.toNat_natCast,etas,elDef]<;>first|omega|grind)|grind [inK]) ?_|refine OblG.mk (by ((conv=>whnf);(repeat (first|refine Bx.mk ?_|(intro h;(try simp [etas,elDef,-List.getD_eq_getElem?_getD] at h);conv=>whnf)));(first|omega|rfl|exact inK_byte _|(simp only [inK,Int.toNat_natCast,etas,elDef]<;>first|omega|grind)|grind [inK]))) ?_|refine And.intro ?_ ?_)<;>conv=>whnf)|exact True.intro|(intro;conv=>whnf)
  all_goals exact leafV hK rfl
theorem s21 : (CtrOK Tryd.prog 21 (.gen .ln C21) ∧ Callable Tryd.prog 21) := by
  refine gen_ok (E := E21) (mkE_cons s45 (mkE_cons s46 (mkE_nil tab_ok))) mix (O := O21) (C := C21) (own := .ow) Tryd.func21 rfl (by rfl) (by kernel_rfl) (fun args K h hbd => ?_)
  unfold C21 at h; split at h
  case h_2 => exact h.elim
  exact ⟨Nat.le_of_ble_eq_true rfl, a21 _ _ _ _ _ _ (by exact hbd) _ h⟩
end Go.Rs

