/-
  The program's law FnExactStoreAt returns true for every slice of changes and every number, and leaves them as they were: StoreAt returns what the reference's returns.
  Conditions: none beyond the given row's own: the arguments are trees as the row reads them; the text is compiled over the given rows of the seat.
-/
import Derived.Test.YtoailaifflbomaaRows
import Derived.WalkKit
import Derived.ProofKit
import Derived.OpenShut
import Derived.ShutString
import Derived.ChangeOld
import Derived.Below
import Derived.SizedLaws
import Derived.Test.YtoailaifflbomaaTr
import Derived.Test.YtoailaifflbomaaLT
set_option linter.all false
namespace Go.Proofs.Ytoailaifflbomaa.fnExactStoreAt
open Go.ChangeShapes Go.WideShapes Go.ChangeAt Go.RowKit
open Go.ChangeMaps (open_string shut_string)

theorem own : ownKnob Try.prog.godebug = none := by kernel_rfl
theorem laidOut : laidOutB Try.prog = true := by kernel_rfl

theorem tyN : Go.Rs.TyN Try.prog 3 9 46 49 47 := ⟨Try.underlying3, Try.underlying9, Try.underlying46, ⟨⟨_, Try.underlying49, rfl⟩, by kernel_rfl, by intro x hx; simp only [List.mem_cons, List.not_mem_nil, or_false] at hx; rcases hx with rfl | rfl | rfl | rfl | rfl <;> kernel_rfl⟩, Try.underlying47, by kernel_rfl, of_decide_eq_true (by kernel_rfl), of_decide_eq_true (by kernel_rfl)⟩
theorem tyCh : Go.Rs.StT Try.prog 51 [(9, Go.Rs.fS, 1), (4, Go.Rs.fB, 1), (49, Go.Rs.fE .node, 5)] := ⟨⟨_, Try.underlying51, rfl⟩, by kernel_rfl, by intro x hx; simp only [List.mem_cons, List.not_mem_nil, or_false] at hx; rcases hx with rfl | rfl | rfl <;> kernel_rfl⟩

set_option maxRecDepth 100000 in
theorem lifted (os : Os) (started : os.Started) (H : Type) (enc : TypeId × Value → H) :
    ReturnsInHanded {} Try.checked os 5 .any (Rows.fnExactStoreAtSpec.pre6 enc Try.prog Try.f5 Rows.fnExactStoreAtRow.domain false) (Rows.fnExactStoreAtSpec.post enc Try.prog Try.f5 false true false false) := by
  refine returnsInHanded_of_change_sized (C := Try.checked) own started (by kernel_rfl) Try.func5
    (ChangeSpec.witness6 (enc := enc) (C := Try.checked) false ⟨#[], #[.slice none 0 0, .int .i64 0], []⟩ 8 (by kernel_rfl) (by kernel_rfl) (by kernel_rfl) (by kernel_rfl)) ?_
  intro W base args ds gs before hval0 hW hcnd hsz _
  have hval : ∀ (j : Nat) t v, Try.f5.params[j]? = some t → args[j]? = some v → Value.okWide Try.prog W .any base t v := hval0
  have hW' := hW
  obtain ⟨p, q, hA0, hV, rfl, hfz, hnd⟩ := hW
  have hA : DataW.TrodAll enc Try.prog W 0 (fun _ => true) true Try.f5.params.toList args.toList ds p := hA0
  rw [Try.params5] at hA hval
  obtain ⟨v0, vs0, d0, ds0, p0, q0, hargs, rfl, rfl, h0, r0⟩ := trodAll_cons hA
  obtain ⟨v1, vs1, d1, ds1, p1, q1, rfl, rfl, rfl, h1, r1⟩ := trodAll_cons r0
  obtain ⟨rfl, rfl, rfl⟩ := trodAll_nil r1
  obtain rfl : args = #[v0, v1] := by cases args; simp_all
  obtain ⟨rfl, rfl⟩ := trodVars_none hV
  obtain ⟨a0, len0, cap0, rfl⟩ := okWide_slice Try.underlying22 (hval 0 22 v0 rfl rfl)
  have k0 := h0
  have lt0 : ∀ x ∈ p0, x.block < W.heap.size := by obtain ⟨m, hm⟩ := k0; exact DataW.trod_lt m _ _ _ hm
  have w0 : ∀ m ∈ DataW.weights Try.prog 22 d0, m ≤ reachBytes := fun m hm => by simpa using List.all_eq_true.1 hsz _ (DataW.weights_mem_each (j := 0) (t := 22) (d := d0) rfl rfl m hm)
  obtain ⟨m0, hm0⟩ := h0
  obtain ⟨_, ⟨l0, rfl⟩, -, hp0⟩ := Go.Rs.rd_chgs tyN Try.underlying4 tyCh Try.underlying22 (of_decide_eq_true (by kernel_rfl)) m0 _ _ hm0 w0
  have e0 : Go.Rs.Rep Go.Rs.noU Go.Rs.noν (Go.Rs.topG W) W (.slice a0 len0 cap0) (.ps .chg l0) := hp0 0 (show (0 : Nat) < 1 from by decide)
  obtain ⟨x1, rfl⟩ := okWide_int Try.underlying3 (hval 1 3 v1 rfl rfl)
  have k1 := h1
  have lt1 : ∀ x ∈ p1, x.block < W.heap.size := by obtain ⟨m, hm⟩ := k1; exact DataW.trod_lt m _ _ _ hm
  have w1 : ∀ m ∈ DataW.weights Try.prog 3 d1, m ≤ reachBytes := fun m hm => by simpa using List.all_eq_true.1 hsz _ (DataW.weights_mem_each (j := 1) (t := 3) (d := d1) rfl rfl m hm)
  obtain ⟨m1, hm1⟩ := h1
  obtain ⟨_, ⟨t1, rfl⟩, -, hp1⟩ := Go.Rs.rd_int Try.underlying3 _ _ hm1 w1
  have e1 : Go.Rs.Rep Go.Rs.noU Go.Rs.noν (Go.Rs.topG W) W (.int .i64 x1) (.int .i64 t1) := hp1 0 (show (0 : Nat) < 1 from by decide)
  clear hA0 hval0
  refine (Go.Rs.law_args (P := Try.prog) (f := 5) Go.Rs.s5.1 (args := [.ps .chg l0, .int .i64 t1]) (.cons (S := []) (S' := []) (.val (.cell (.per e0 rfl))) (.cons (S := []) (S' := []) (.val (.cell (.per e1 rfl))) .nil)) (fun K hk => ⟨Go.Rs.rep_bdC e0, hk⟩) (Go.Rs.tabs_none rfl rfl)).mono fun e W' ⟨he, bel⟩ => ?_
  subst he
  exact ⟨_, rfl, _, _, _, [], _, [], hW', trodAll_mk1 (shut_bool Try.underlying4 _), (trodAll_cons_mk (Below.trod laidOut (by kernel_rfl) (of_decide_eq_true (by kernel_rfl)) k0 bel lt0) (trodAll_cons_mk (Below.trod laidOut (by kernel_rfl) (of_decide_eq_true (by kernel_rfl)) k1 bel lt1) trodAll_mk0)), rfl, bel.frame _, fun h => by cases h⟩

theorem over : Rows.fnExactStoreAtRow.holds Try.pinned (OpenSpec.ofChange Rows.fnExactStoreAtSpec) :=
  OpenClaim.holds_of_wide 5 Try.f5 rfl rfl rfl rfl rfl rfl rfl ⟨rfl, rfl, rfl, rfl, rfl⟩ rfl rfl rfl rfl rfl (by as_aux_lemma => kernel_rfl) Try.func5 (by as_aux_lemma => kernel_rfl)
    (of_decide_eq_true (by as_aux_lemma => kernel_rfl)) (by unfold Func.isWrapper; first | (rw [if_pos (by decide +kernel)]; kernel_rfl) | (rw [if_neg (by decide +kernel)]; exact ⟨rfl, rfl⟩))
    (fun os started H enc _ => lifted os started H enc)

theorem proved : Rows.FnExactStoreAtSaid := over
#print axioms proved
end Go.Proofs.Ytoailaifflbomaa.fnExactStoreAt
