/-
  The program's law FnExactTouches returns true for every slice of requests, and leaves it as it was: Touches returns what the reference's returns.
The program's law FnExactTouches returns true for every slice of requests, and leaves it as it was: Touches returns what the reference's returns.
  Conditions: none beyond the given row's own: the arguments are trees as the row reads them; the text is compiled over the given rows of the seat.
-/
import Derived.Test.YtmgheiagnleeiaaRows
import Derived.WalkKit
import Derived.ProofKit
import Derived.OpenShut
import Derived.ShutString
import Derived.ChangeOld
import Derived.Below
import Derived.SizedLaws
import Derived.Test.YtmgheiagnleeiaaTr
import Derived.Test.YtmgheiagnleeiaaRD
set_option linter.all false
namespace Go.Proofs.Ytmgheiagnleeiaa.fnExactTouches
open Go.ChangeShapes Go.WideShapes Go.ChangeAt Go.RowKit
open Go.ChangeMaps (open_string shut_string)

theorem own : ownKnob Try.prog.godebug = none := by kernel_rfl
theorem laidOut : laidOutB Try.prog = true := by kernel_rfl

theorem tyN : Go.Rs.TyN Try.prog 3 9 24 36 34 := ⟨Try.underlying3, Try.underlying9, Try.underlying24, ⟨⟨_, Try.underlying36, rfl⟩, by kernel_rfl, by intro x hx; simp only [List.mem_cons, List.not_mem_nil, or_false] at hx; rcases hx with rfl | rfl | rfl | rfl | rfl <;> kernel_rfl⟩, Try.underlying34, by kernel_rfl, of_decide_eq_true (by kernel_rfl), of_decide_eq_true (by kernel_rfl)⟩
theorem tyOp : Go.Rs.StT Try.prog 71 [(3, Go.Rs.fI, 1), (24, Go.Rs.fL .str, 1), (24, Go.Rs.fL .str, 1), (36, Go.Rs.fE .node, 5)] := ⟨⟨_, Try.underlying71, rfl⟩, by kernel_rfl, by intro x hx; simp only [List.mem_cons, List.not_mem_nil, or_false] at hx; rcases hx with rfl | rfl | rfl | rfl <;> kernel_rfl⟩
theorem tyRq : Go.Rs.StT Try.prog 39 [(3, Go.Rs.fI, 1), (9, Go.Rs.fS, 1), (24, Go.Rs.fL .str, 1), (24, Go.Rs.fL .str, 1), (36, Go.Rs.fE .node, 5), (37, Go.Rs.fL .opn, 1)] := ⟨⟨_, Try.underlying39, rfl⟩, by kernel_rfl, by intro x hx; simp only [List.mem_cons, List.not_mem_nil, or_false] at hx; rcases hx with rfl | rfl | rfl | rfl | rfl | rfl <;> kernel_rfl⟩

set_option maxRecDepth 100000 in
theorem lifted (os : Os) (started : os.Started) (H : Type) (enc : TypeId × Value → H) :
    ReturnsInHanded {} Try.checked os 3 .any (Rows.fnExactTouchesSpec.pre6 enc Try.prog Try.f3 Rows.fnExactTouchesRow.domain false) (Rows.fnExactTouchesSpec.post enc Try.prog Try.f3 false true false false) := by
  refine returnsInHanded_of_change_sized (C := Try.checked) own started (by kernel_rfl) Try.func3
    (ChangeSpec.witness6 (enc := enc) (C := Try.checked) false ⟨#[], #[.slice none 0 0], []⟩ 8 (by kernel_rfl) (by kernel_rfl) (by kernel_rfl) (by kernel_rfl)) ?_
  intro W base args ds gs before hval0 hW hcnd hsz _
  have hval : ∀ (j : Nat) t v, Try.f3.params[j]? = some t → args[j]? = some v → Value.okWide Try.prog W .any base t v := hval0
  have hW' := hW
  obtain ⟨p, q, hA0, hV, rfl, hfz, hnd⟩ := hW
  have hA : DataW.TrodAll enc Try.prog W 0 (fun _ => true) true Try.f3.params.toList args.toList ds p := hA0
  rw [Try.params3] at hA hval
  obtain ⟨v0, vs0, d0, ds0, p0, q0, hargs, rfl, rfl, h0, r0⟩ := trodAll_cons hA
  obtain ⟨rfl, rfl, rfl⟩ := trodAll_nil r0
  obtain rfl : args = #[v0] := by cases args; simp_all
  obtain ⟨rfl, rfl⟩ := trodVars_none hV
  obtain ⟨a0, len0, cap0, rfl⟩ := okWide_slice Try.underlying22 (hval 0 22 v0 rfl rfl)
  have k0 := h0
  have lt0 : ∀ x ∈ p0, x.block < W.heap.size := by obtain ⟨m, hm⟩ := k0; exact DataW.trod_lt m _ _ _ hm
  have w0 : ∀ m ∈ DataW.weights Try.prog 22 d0, m ≤ reachBytes := fun m hm => by simpa using List.all_eq_true.1 hsz _ (DataW.weights_mem_each (j := 0) (t := 22) (d := d0) rfl rfl m hm)
  obtain ⟨m0, hm0⟩ := h0
  obtain ⟨_, ⟨l0, rfl⟩, -, hp0⟩ := Go.Rs.rd_reqs tyN (Go.Rs.rd_ops tyN tyOp Try.underlying37 (of_decide_eq_true (by kernel_rfl))) tyRq Try.underlying22 (of_decide_eq_true (by kernel_rfl)) m0 _ _ hm0 w0
  have e0 : Go.Rs.Rep Go.Rs.noU Go.Rs.noν (Go.Rs.topG W) W (.slice a0 len0 cap0) (.ps .req l0) := hp0 0 (show (0 : Nat) < 1 from by decide)
  clear hA0 hval0
  refine (Go.Rs.law_args (P := Try.prog) (f := 3) Go.Rs.s3.1 (args := [.ps .req l0]) (.cons (S := []) (S' := []) (.val (.cell (.per e0 rfl))) .nil) (fun K hk => ⟨Go.Rs.rep_bdR e0, hk⟩) (Go.Rs.tabs_none rfl rfl)).mono fun e W' ⟨he, bel⟩ => ?_
  subst he
  exact ⟨_, rfl, _, _, _, [], _, [], hW', trodAll_mk1 (shut_bool Try.underlying4 _), (trodAll_cons_mk (Below.trod laidOut (by kernel_rfl) (of_decide_eq_true (by kernel_rfl)) k0 bel lt0) trodAll_mk0), rfl, bel.frame _, fun h => by cases h⟩

theorem over : Rows.fnExactTouchesRow.holds Try.pinned (OpenSpec.ofChange Rows.fnExactTouchesSpec) :=
  OpenClaim.holds_of_wide 3 Try.f3 rfl rfl rfl rfl rfl rfl rfl ⟨rfl, rfl, rfl, rfl, rfl⟩ rfl rfl rfl rfl rfl (by as_aux_lemma => kernel_rfl) Try.func3 (by as_aux_lemma => kernel_rfl)
    (of_decide_eq_true (by as_aux_lemma => kernel_rfl)) (by unfold Func.isWrapper; first | (rw [if_pos (by decide +kernel)]; kernel_rfl) | (rw [if_neg (by decide +kernel)]; exact ⟨rfl, rfl⟩))
    (fun os started H enc _ => lifted os started H enc)

theorem proved : Rows.FnExactTouchesSaid := over
#print axioms proved
end Go.Proofs.Ytmgheiagnleeiaa.fnExactTouches
