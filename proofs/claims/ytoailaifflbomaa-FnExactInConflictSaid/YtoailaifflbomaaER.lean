import Derived.Test.YtoailaifflbomaaKN
import Derived.Deep.LoopGhost
import Derived.Test.YtoailaifflbomaaEN
import Derived.Test.YtoailaifflbomaaEK
import Derived.Test.YtoailaifflbomaaEF
set_option linter.all false
section
set_option linter.unusedSimpArgs false
set_option linter.unusedVariables false
namespace Go.Rs
open Go.Proofs Go.RowKit
set_option maxRecDepth 100000

end Go.Rs
end
section
section
set_option linter.unusedSimpArgs false
set_option linter.unusedVariables false
namespace Go.Rs
open Go.Proofs Go.RowKit
set_option maxRecDepth 100000

end Go.Rs
end
section
section
set_option linter.unusedSimpArgs false
set_option linter.unusedVariables false
namespace Go.Rs
open Go.Proofs Go.RowKit
set_option maxRecDepth 100000
end Go.Rs
end
section
set_option linter.unusedSimpArgs false
set_option linter.unusedVariables false
namespace Go.Rs
open Go.Proofs Go.RowKit
set_option maxRecDepth 100000
def ndW (n : Nd) : List AV := [.int .i64 n.kind, .int .i64 n.num, .str n.text, .own .str n.names, .wr .node n.kids]
noncomputable def c35r (n : Nd) (K : AV → List AV → Prop) : Prop :=
    Obl (smN n) (K (.st (ndW n)) [])
noncomputable def C35r : List AV → (AV → List AV → Prop) → Prop
  | [.st [.int .i64 n_0, .int .i64 n_1, .str n_2, .ps .str n_3, .ps .node n_4]], K => c35r ⟨n_0, n_1, n_2, n_3, n_4⟩ K
  | _, _ => False
theorem s35r : CtrOK Try.prog 35 (.gen .ow C35r) ∧ Callable Try.prog 35 := by
  refine ⟨Snd.of (Snd.lend s35d.1) fun vs K h => ?_, s35d.2⟩
  unfold C35r at h
  split at h
  case h_2 => exact h.elim
  unfold c35r at h
  exact ⟨rfl, h.1, rfl, rfl, h.2⟩
noncomputable def c44 (l : List Bs) (m : Int) (K : AV → List AV → Prop) : Prop :=
    Obl (0 ≤ m ∧ m + (l.length : Int) ≤ 4611686018427387904) (K (.int .i64 (m + (l.length : Int))) [.own .str (mkS l m)])
noncomputable def C44 : List AV → (AV → List AV → Prop) → Prop
  | [.tup [.own .str l], .int .i64 m], K => c44 l m K
  | _, _ => False
theorem s44 : CtrOK Try.prog 44 (.gen .ln C44) ∧ Callable Try.prog 44 := by
  refine ⟨fun vs K h => ?_, callable Try.func44 (by kernel_rfl) (by kernel_rfl)⟩
  unfold C44 at h
  split at h
  case h_2 => exact h.elim
  unfold c44 at h
  obtain ⟨h1, h2⟩ := h
  exact fun w γ S xs hi hn hf ht hS => snd_markO rfl h2 (fun w x bs hd hn ht htb => kmarkStringS _ _ w x bs hd hn ht htb h1.1 h1.2) hi hn hf ht hS
noncomputable def c45 (l : List Nd) (m : Int) (K : AV → List AV → Prop) : Prop :=
    Obl (0 ≤ m ∧ m + ((totNs l : Nat) : Int) ≤ 4611686018427387904) (K (.int .i64 (m + ((totNs l : Nat) : Int))) [.wr .node (mkNs l m)])
noncomputable def C45 : List AV → (AV → List AV → Prop) → Prop
  | [.tup [.wr .node l], .int .i64 m], K => c45 l m K
  | _, _ => False
theorem s45 : CtrOK Try.prog 45 (.gen .ln C45) ∧ Callable Try.prog 45 := by
  refine ⟨fun vs K h => ?_, callable Try.func45 (by kernel_rfl) (by kernel_rfl)⟩
  unfold C45 at h
  split at h
  case h_2 => exact h.elim
  unfold c45 at h
  obtain ⟨h1, h2⟩ := h
  exact fun w γ S xs hi hn hf ht hS => snd_markW h2 (fun w x bs hd hn ht htb => kmarkNodeS _ _ w x bs hd hn ht htb h1.1 h1.2) hi hn hf ht hS
noncomputable def c38 (n1 : Int) (n2 : Int) (n3 : Bs) (n4 : List Bs) (n5 : List Nd) (m : Int) (K : AV → List AV → Prop) : Prop :=
    Obl (0 ≤ m ∧ m + (n4.length : Int) + ((totNs n5 : Nat) : Int) ≤ 4611686018427387904) (K (.int .i64 (m + (n4.length : Int) + ((totNs n5 : Nat) : Int))) [.own .str (mkS n4 m), .wr .node (mkNs n5 (m + (n4.length : Int)))])
noncomputable def C38 : List AV → (AV → List AV → Prop) → Prop
  | [.tup [.st [.int .i64 n1, .int .i64 n2, .str n3, .own .str n4, .wr .node n5]], .int .i64 m], K => c38 n1 n2 n3 n4 n5 m K
  | _, _ => False
noncomputable def E38 : Ctx := mkE tab [(44, .gen .ln C44), (45, .gen .ln C45)]
noncomputable def O38 : Nat → List DI := ordL []
theorem a38 (n1 : Int) (n2 : Int) (n3 : Bs) (n4 : List Bs) (n5 : List Nd) (m : Int) (hb : BdAs [.tup [.st [.int .i64 n1, .int .i64 n2, .str n3, .own .str n4, .wr .node n5]], .int .i64 m]) (K : AV → List AV → Prop) (h : c38 n1 n2 n3 n4 n5 m K) : abody E38 O38 .ow Try.f38 (Try.f38.body.getD .skip) [.tup [.st [.int .i64 n1, .int .i64 n2, .str n3, .own .str n4, .wr .node n5]], .int .i64 m] K := by
  simp only [BdAs, BdA, BdL, BdC, MX, ndC, shC, itC, stC, opC, chC, nwC, flC, rqC, rsC, enc, List.cons_append, List.nil_append, and_true, true_and] at hb
  unfold c38 at h
  obtain ⟨hs, hK⟩ := h
  conv => whnf
  repeat' first|((first|refine Cnd.mk (fun h=>?_) (fun h=>?_)|refine Gd.mk (fun h=>?_))<;>(try simp [etas,elDef,-List.getD_eq_getElem?_getD] at h)<;>conv=>whnf)|((first|refine Obl.mk (by first|omega|rfl|exact inK_byte _|(simp only [inK,Int.toNat_natCast,etas,elDef]<;>first|omega|grind)|grind [inK]) ?_|refine OblG.mk (by ((conv=>whnf);(repeat (first|refine Bx.mk ?_|(intro h;(try simp [etas,elDef,-List.getD_eq_getElem?_getD] at h);conv=>whnf)));(first|omega|rfl|exact inK_byte _|(simp only [inK,Int.toNat_natCast,etas,elDef]<;>first|omega|grind)|grind [inK]))) ?_|refine And.intro ?_ ?_)<;>conv=>whnf)|exact True.intro|(intro;conv=>whnf)
  all_goals exact leafV hK rfl
theorem s38 : (CtrOK Try.prog 38 (.gen .ln C38) ∧ Callable Try.prog 38) := by
  refine gen_ok (E := E38) (mkE_cons s44 (mkE_cons s45 (mkE_nil tab_ok))) mix (O := O38) (C := C38) (own := .ow) Try.func38 rfl (by rfl) (by kernel_rfl) (fun args K h hbd => ?_)
  unfold C38 at h; split at h
  case h_2 => exact h.elim
  exact ⟨Nat.le_of_ble_eq_true rfl, a38 _ _ _ _ _ _ (by exact hbd) _ h⟩
end Go.Rs
end
end
end
