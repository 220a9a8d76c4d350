import Derived.Test.YtmkgadogaefkaaaDoorEN
import Derived.Test.YtmkgadogaefkaaaDoorKN
import Derived.Test.YtmkgadogaefkaaaDoorEK
import Derived.Test.YtmkgadogaefkaaaDoorEF
set_option linter.all false
set_option linter.unusedSimpArgs false
set_option linter.unusedVariables false
namespace Go.Rs
open Go.Proofs Go.RowKit
set_option maxRecDepth 100000
def ndW (n : Nd) : List AV := [.int .i64 n.kind, .int .i64 n.num, .str n.text, .own .str n.names, .wr .node n.kids]
noncomputable def c7r (n : Nd) (K : AV → List AV → Prop) : Prop :=
    Obl (smN n) (K (.st (ndW n)) [])
noncomputable def C7r : List AV → (AV → List AV → Prop) → Prop
  | [.st [.int .i64 n_0, .int .i64 n_1, .str n_2, .ps .str n_3, .ps .node n_4]], K => c7r ⟨n_0, n_1, n_2, n_3, n_4⟩ K
  | _, _ => False
theorem s7r : CtrOK Tryd.prog 7 (.gen .ow C7r) ∧ Callable Tryd.prog 7 := by
  refine ⟨Snd.of (Snd.lend s7d.1) fun vs K h => ?_, s7d.2⟩
  unfold C7r at h
  split at h
  case h_2 => exact h.elim
  unfold c7r at h
  exact ⟨rfl, h.1, rfl, rfl, h.2⟩
noncomputable def c13 (l : List Bs) (m : Int) (K : AV → List AV → Prop) : Prop :=
    Obl (0 ≤ m ∧ m + (l.length : Int) ≤ 4611686018427387904) (K (.int .i64 (m + (l.length : Int))) [.own .str (mkS l m)])
noncomputable def C13 : List AV → (AV → List AV → Prop) → Prop
  | [.tup [.own .str l], .int .i64 m], K => c13 l m K
  | _, _ => False
theorem s13 : CtrOK Tryd.prog 13 (.gen .ln C13) ∧ Callable Tryd.prog 13 := by
  refine ⟨fun vs K h => ?_, callable Tryd.func13 (by kernel_rfl) (by kernel_rfl)⟩
  unfold C13 at h
  split at h
  case h_2 => exact h.elim
  unfold c13 at h
  obtain ⟨h1, h2⟩ := h
  exact fun w γ S xs hi hn hf ht hS => snd_markO rfl h2 (fun w x bs hd hn ht htb => kmarkStringS _ _ w x bs hd hn ht htb h1.1 h1.2) hi hn hf ht hS
noncomputable def c29 (l : List Nd) (m : Int) (K : AV → List AV → Prop) : Prop :=
    Obl (0 ≤ m ∧ m + ((totNs l : Nat) : Int) ≤ 4611686018427387904) (K (.int .i64 (m + ((totNs l : Nat) : Int))) [.wr .node (mkNs l m)])
noncomputable def C29 : List AV → (AV → List AV → Prop) → Prop
  | [.tup [.wr .node l], .int .i64 m], K => c29 l m K
  | _, _ => False
theorem s29 : CtrOK Tryd.prog 29 (.gen .ln C29) ∧ Callable Tryd.prog 29 := by
  refine ⟨fun vs K h => ?_, callable Tryd.func29 (by kernel_rfl) (by kernel_rfl)⟩
  unfold C29 at h
  split at h
  case h_2 => exact h.elim
  unfold c29 at h
  obtain ⟨h1, h2⟩ := h
  exact fun w γ S xs hi hn hf ht hS => snd_markW h2 (fun w x bs hd hn ht htb => kmarkNodeS _ _ w x bs hd hn ht htb h1.1 h1.2) hi hn hf ht hS
noncomputable def c12 (n1 : Int) (n2 : Int) (n3 : Bs) (n4 : List Bs) (n5 : List Nd) (m : Int) (K : AV → List AV → Prop) : Prop :=
    Obl (0 ≤ m ∧ m + (n4.length : Int) + ((totNs n5 : Nat) : Int) ≤ 4611686018427387904) (K (.int .i64 (m + (n4.length : Int) + ((totNs n5 : Nat) : Int))) [.own .str (mkS n4 m), .wr .node (mkNs n5 (m + (n4.length : Int)))])
noncomputable def C12 : List AV → (AV → List AV → Prop) → Prop
  | [.tup [.st [.int .i64 n1, .int .i64 n2, .str n3, .own .str n4, .wr .node n5]], .int .i64 m], K => c12 n1 n2 n3 n4 n5 m K
  | _, _ => False
noncomputable def E12 : Ctx := mkE tab [(13, .gen .ln C13), (29, .gen .ln C29)]
noncomputable def O12 : Nat → List DI := ordL []
theorem a12 (n1 : Int) (n2 : Int) (n3 : Bs) (n4 : List Bs) (n5 : List Nd) (m : Int) (hb : BdAs [.tup [.st [.int .i64 n1, .int .i64 n2, .str n3, .own .str n4, .wr .node n5]], .int .i64 m]) (K : AV → List AV → Prop) (h : c12 n1 n2 n3 n4 n5 m K) : abody E12 O12 .ow Tryd.f12 (Tryd.f12.body.getD .skip) [.tup [.st [.int .i64 n1, .int .i64 n2, .str n3, .own .str n4, .wr .node n5]], .int .i64 m] K := by
  simp only [BdAs, BdA, BdL, BdC, MX, ndC, shC, itC, stC, opC, chC, nwC, flC, rqC, rsC, enc, List.cons_append, List.nil_append, and_true, true_and] at hb
  unfold c12 at h
  obtain ⟨hs, hK⟩ := h
  conv => whnf
  repeat' first|(refine Cnd.mk (fun h=>?_) (fun h=>?_)<;>(try simp [etas,elDef,-List.getD_eq_getElem?_getD] at h)<;>conv=>whnf)|(refine Obl.mk (by first|omega|rfl|exact inK_byte _|(simp only [inK,Int.toNat_natCast,etas,elDef]<;>first|omega|grind)|grind [inK]) ?_<;>conv=>whnf)|(refine OblG.mk (by ((conv=>whnf);(repeat (first|(refine Bx.mk ?_)|(intro h;(try simp [etas,elDef,-List.getD_eq_getElem?_getD] at h);conv=>whnf)));(first|omega|rfl|exact inK_byte _|(simp only [inK,Int.toNat_natCast,etas,elDef]<;>first|omega|grind)|grind [inK]))) ?_<;>conv=>whnf)|(refine Gd.mk (fun h=>?_)<;>(try simp [etas,elDef,-List.getD_eq_getElem?_getD] at h)<;>conv=>whnf)|(refine And.intro ?_ ?_<;>conv=>whnf)|exact True.intro|(intro;conv=>whnf)
  all_goals exact leafV hK rfl
theorem s12 : (CtrOK Tryd.prog 12 (.gen .ln C12) ∧ Callable Tryd.prog 12) := by
  refine gen_ok (E := E12) (mkE_cons s13 (mkE_cons s29 (mkE_nil tab_ok))) mix (O := O12) (C := C12) (own := .ow) Tryd.func12 rfl (by rfl) (by kernel_rfl) (fun args K h hbd => ?_)
  unfold C12 at h; split at h
  case h_2 => exact h.elim
  exact ⟨Nat.le_of_ble_eq_true rfl, a12 _ _ _ _ _ _ (by exact hbd) _ h⟩
end Go.Rs

