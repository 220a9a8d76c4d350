/-
  The program's law FnExactInConflict returns true for every three nodes, and leaves them as they were: InConflict returns what the reference's returns.
  Conditions: none beyond the given row's own: the arguments are trees as the row reads them; the text is compiled over the given rows of the seat.
-/
import Derived.Test.YtoailaifflbomaaRows
import Derived.WalkKit
import Derived.ProofKit
import Derived.OpenShut
import Derived.ShutString
import Derived.ChangeOld
import Derived.Below
import Derived.SizedLaws
import Derived.Test.YtoailaifflbomaaTr
import Derived.Test.YtoailaifflbomaaQL
set_option linter.all false
namespace Go.Proofs.Ytoailaifflbomaa.fnExactInConflict
open Go.ChangeShapes Go.WideShapes Go.ChangeAt Go.RowKit
open Go.ChangeMaps (open_string shut_string)

theorem own : ownKnob Try.prog.godebug = none := by kernel_rfl
theorem laidOut : laidOutB Try.prog = true := by kernel_rfl

theorem tyN : Go.Rs.TyN Try.prog 3 9 46 49 47 := ⟨Try.underlying3, Try.underlying9, Try.underlying46, ⟨⟨_, Try.underlying49, rfl⟩, by kernel_rfl, by intro x hx; simp only [List.mem_cons, List.not_mem_nil, or_false] at hx; rcases hx with rfl | rfl | rfl | rfl | rfl <;> kernel_rfl⟩, Try.underlying47, by kernel_rfl, of_decide_eq_true (by kernel_rfl), of_decide_eq_true (by kernel_rfl)⟩

set_option maxRecDepth 100000 in
theorem lifted (os : Os) (started : os.Started) (H : Type) (enc : TypeId × Value → H) :
    ReturnsInHanded {} Try.checked os 8 .any (Rows.fnExactInConflictSpec.pre6 enc Try.prog Try.f8 Rows.fnExactInConflictRow.domain false) (Rows.fnExactInConflictSpec.post enc Try.prog Try.f8 false true false false) := by
  refine returnsInHanded_of_change_sized (C := Try.checked) own started (by kernel_rfl) Try.func8
    (ChangeSpec.witness6 (enc := enc) (C := Try.checked) false ⟨#[], #[.agg #[.int .i64 0, .int .i64 0, .string ⟨#[]⟩, .slice none 0 0, .slice none 0 0], .agg #[.int .i64 0, .int .i64 0, .string ⟨#[]⟩, .slice none 0 0, .slice none 0 0], .agg #[.int .i64 0, .int .i64 0, .string ⟨#[]⟩, .slice none 0 0, .slice none 0 0]], []⟩ 8 (by kernel_rfl) (by kernel_rfl) (by kernel_rfl) (by kernel_rfl)) ?_
  intro W base args ds gs before hval0 hW hcnd hsz _
  have hval : ∀ (j : Nat) t v, Try.f8.params[j]? = some t → args[j]? = some v → Value.okWide Try.prog W .any base t v := hval0
  have hW' := hW
  obtain ⟨p, q, hA0, hV, rfl, hfz, hnd⟩ := hW
  have hA : DataW.TrodAll enc Try.prog W 0 (fun _ => true) true Try.f8.params.toList args.toList ds p := hA0
  rw [Try.params8] at hA hval
  obtain ⟨v0, vs0, d0, ds0, p0, q0, hargs, rfl, rfl, h0, r0⟩ := trodAll_cons hA
  obtain ⟨v1, vs1, d1, ds1, p1, q1, rfl, rfl, rfl, h1, r1⟩ := trodAll_cons r0
  obtain ⟨v2, vs2, d2, ds2, p2, q2, rfl, rfl, rfl, h2, r2⟩ := trodAll_cons r1
  obtain ⟨rfl, rfl, rfl⟩ := trodAll_nil r2
  obtain rfl : args = #[v0, v1, v2] := by cases args; simp_all
  obtain ⟨rfl, rfl⟩ := trodVars_none hV
  obtain ⟨⟨c0⟩, rfl, -⟩ := okWide_struct Try.underlying49 (hval 0 49 v0 rfl rfl)
  have k0 := h0
  have lt0 : ∀ x ∈ p0, x.block < W.heap.size := by obtain ⟨m, hm⟩ := k0; exact DataW.trod_lt m _ _ _ hm
  have w0 : ∀ m ∈ DataW.weights Try.prog 49 d0, m ≤ reachBytes := fun m hm => by simpa using List.all_eq_true.1 hsz _ (DataW.weights_mem_each (j := 0) (t := 49) (d := d0) rfl rfl m hm)
  obtain ⟨m0, hm0⟩ := h0
  obtain ⟨_, ⟨s0, rfl⟩, hl0, hp0⟩ := Go.Rs.rd_node tyN m0 _ _ hm0 w0
  obtain ⟨⟨c1⟩, rfl, -⟩ := okWide_struct Try.underlying49 (hval 1 49 v1 rfl rfl)
  have k1 := h1
  have lt1 : ∀ x ∈ p1, x.block < W.heap.size := by obtain ⟨m, hm⟩ := k1; exact DataW.trod_lt m _ _ _ hm
  have w1 : ∀ m ∈ DataW.weights Try.prog 49 d1, m ≤ reachBytes := fun m hm => by simpa using List.all_eq_true.1 hsz _ (DataW.weights_mem_each (j := 1) (t := 49) (d := d1) rfl rfl m hm)
  obtain ⟨m1, hm1⟩ := h1
  obtain ⟨_, ⟨s1, rfl⟩, hl1, hp1⟩ := Go.Rs.rd_node tyN m1 _ _ hm1 w1
  obtain ⟨⟨c2⟩, rfl, -⟩ := okWide_struct Try.underlying49 (hval 2 49 v2 rfl rfl)
  have k2 := h2
  have lt2 : ∀ x ∈ p2, x.block < W.heap.size := by obtain ⟨m, hm⟩ := k2; exact DataW.trod_lt m _ _ _ hm
  have w2 : ∀ m ∈ DataW.weights Try.prog 49 d2, m ≤ reachBytes := fun m hm => by simpa using List.all_eq_true.1 hsz _ (DataW.weights_mem_each (j := 2) (t := 49) (d := d2) rfl rfl m hm)
  obtain ⟨m2, hm2⟩ := h2
  obtain ⟨_, ⟨s2, rfl⟩, hl2, hp2⟩ := Go.Rs.rd_node tyN m2 _ _ hm2 w2
  clear hA0 hval0
  refine (Go.Rs.law_args (P := Try.prog) (f := 8) Go.Rs.s8.1 (args := [.st (Go.Rs.ndC s0), .st (Go.Rs.ndC s1), .st (Go.Rs.ndC s2)]) (.cons (S := []) (S' := []) (.val (.st (Go.Rs.ics_of hl0 (fun q hq => by have := hp0 q hq; rwa [Nat.zero_add] at this) (by simp [Go.Rs.enc, Go.Rs.ndC])))) (.cons (S := []) (S' := []) (.val (.st (Go.Rs.ics_of hl1 (fun q hq => by have := hp1 q hq; rwa [Nat.zero_add] at this) (by simp [Go.Rs.enc, Go.Rs.ndC])))) (.cons (S := []) (S' := []) (.val (.st (Go.Rs.ics_of hl2 (fun q hq => by have := hp2 q hq; rwa [Nat.zero_add] at this) (by simp [Go.Rs.enc, Go.Rs.ndC])))) .nil))) (fun K hk => ⟨⟨Go.Rs.pc_bdN (off := 0) hp0, Go.Rs.pc_bdN (off := 0) hp1, Go.Rs.pc_bdN (off := 0) hp2⟩, hk⟩) (Go.Rs.tabs_none rfl rfl)).mono fun e W' ⟨he, bel⟩ => ?_
  subst he
  exact ⟨_, rfl, _, _, _, [], _, [], hW', trodAll_mk1 (shut_bool Try.underlying4 _), (trodAll_cons_mk (Below.trod laidOut (by kernel_rfl) (of_decide_eq_true (by kernel_rfl)) k0 bel lt0) (trodAll_cons_mk (Below.trod laidOut (by kernel_rfl) (of_decide_eq_true (by kernel_rfl)) k1 bel lt1) (trodAll_cons_mk (Below.trod laidOut (by kernel_rfl) (of_decide_eq_true (by kernel_rfl)) k2 bel lt2) trodAll_mk0))), rfl, bel.frame _, fun h => by cases h⟩

theorem over : Rows.fnExactInConflictRow.holds Try.pinned (OpenSpec.ofChange Rows.fnExactInConflictSpec) :=
  OpenClaim.holds_of_wide 8 Try.f8 rfl rfl rfl rfl rfl rfl rfl ⟨rfl, rfl, rfl, rfl, rfl⟩ rfl rfl rfl rfl rfl (by as_aux_lemma => kernel_rfl) Try.func8 (by as_aux_lemma => kernel_rfl)
    (of_decide_eq_true (by as_aux_lemma => kernel_rfl)) (by unfold Func.isWrapper; first | (rw [if_pos (by decide +kernel)]; kernel_rfl) | (rw [if_neg (by decide +kernel)]; exact ⟨rfl, rfl⟩))
    (fun os started H enc _ => lifted os started H enc)

theorem proved : Rows.FnExactInConflictSaid := over
#print axioms proved
end Go.Proofs.Ytoailaifflbomaa.fnExactInConflict
