import Derived.Test.YtmgheiagnleeiaaEN
import Derived.Test.YtmgheiagnleeiaaKN
import Derived.Test.YtmgheiagnleeiaaEK
import Derived.Test.YtmgheiagnleeiaaEF
set_option linter.all false
set_option linter.unusedSimpArgs false
set_option linter.unusedVariables false
namespace Go.Rs
open Go.Proofs Go.RowKit
set_option maxRecDepth 100000
noncomputable def c11 (l : List Bs) (m : Int) (K : AV → List AV → Prop) : Prop :=
    Obl (0 ≤ m ∧ m + (l.length : Int) ≤ 4611686018427387904) (K (.int .i64 (m + (l.length : Int))) [.own .str (mkS l m)])
noncomputable def C11 : List AV → (AV → List AV → Prop) → Prop
  | [.tup [.own .str l], .int .i64 m], K => c11 l m K
  | _, _ => False
theorem s11 : CtrOK Try.prog 11 (.gen .ln C11) ∧ Callable Try.prog 11 := by
  refine ⟨fun vs K h => ?_, callable Try.func11 (by kernel_rfl) (by kernel_rfl)⟩
  unfold C11 at h
  split at h
  case h_2 => exact h.elim
  unfold c11 at h
  obtain ⟨h1, h2⟩ := h
  exact fun w γ S xs hi hn hf ht hS => snd_markO rfl h2 (fun w x bs hd hn ht htb => kmarkStringS _ _ w x bs hd hn ht htb h1.1 h1.2) hi hn hf ht hS
noncomputable def c23 (l : List Nd) (m : Int) (K : AV → List AV → Prop) : Prop :=
    Obl (0 ≤ m ∧ m + ((totNs l : Nat) : Int) ≤ 4611686018427387904) (K (.int .i64 (m + ((totNs l : Nat) : Int))) [.wr .node (mkNs l m)])
end Go.Rs

