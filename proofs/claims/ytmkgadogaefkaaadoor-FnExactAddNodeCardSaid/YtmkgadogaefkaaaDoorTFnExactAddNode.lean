/-
  The program's law FnExactAddNode returns true for every two nodes and every slice of texts, and leaves them as they were: AddNode returns what the reference's returns.
  Conditions: none beyond the given row's own: the arguments are trees as the row reads them; the text is compiled over the given rows of the seat.
-/
import Derived.Test.YtmkgadogaefkaaaDoorRows
import Derived.WalkKit
import Derived.ProofKit
import Derived.OpenShut
import Derived.ShutString
import Derived.ChangeOld
import Derived.Below
import Derived.SizedLaws
import Derived.LaidMore
import Derived.LaidHandle
import Derived.SevenTiedAt
import Derived.Test.YtmkgadogaefkaaaDoorCards
import Derived.Test.YtmkgadogaefkaaaDoorTie
import Derived.Test.YtmkgadogaefkaaaDoorTr
import Derived.Test.YtmkgadogaefkaaaDoorLX
set_option linter.all false
namespace Go.Proofs.YtmkgadogaefkaaaDoor.fnExactAddNode
open Go.ChangeShapes Go.WideShapes Go.ChangeAt Go.RowKit
open Go.ChangeMaps (open_string shut_string)

theorem own : ownKnob Tryd.prog.godebug = none := by kernel_rfl
theorem laidOut : laidOutB Tryd.prog = true := by kernel_rfl

/-- The door's own heap meets the condition. -/
theorem door_met (os : Os) (args : Array Value) : laidMetH Tryd.prog Rows.fnExactAddNodeRow.laid ((World.doorLaid Tryd.prog 200 os).forCall (fun _ _ => 0) ⟨#[], args, []⟩).memory :=
  laidMetH_of_parts3 (fuel := 8) (laidMet_of_run' 8 (by kernel_rfl) (by kernel_rfl)) (by kernel_rfl) (by kernel_rfl)

theorem tyN : Go.Rs.TyN Tryd.prog 3 9 22 25 23 := ⟨Tryd.underlying3, Tryd.underlying9, Tryd.underlying22, ⟨⟨_, Tryd.underlying25, rfl⟩, by kernel_rfl, by intro x hx; simp only [List.mem_cons, List.not_mem_nil, or_false] at hx; rcases hx with rfl | rfl | rfl | rfl | rfl <;> kernel_rfl⟩, Tryd.underlying23, by kernel_rfl, of_decide_eq_true (by kernel_rfl), of_decide_eq_true (by kernel_rfl)⟩

set_option maxRecDepth 100000 in
theorem lifted (os : Os) (started : os.Started) (H : Type) (enc : TypeId × Value → H) :
    ReturnsInHanded {} Tryd.checked os 3 .any (fun w args => (Rows.fnExactAddNodeSpec.pre enc Tryd.prog Tryd.f3 Rows.fnExactAddNodeRow.domain false w args ∧ laidMetH Tryd.prog Rows.fnExactAddNodeRow.laid w) ∧ sizedMet enc Tryd.prog Tryd.f3 (OpenSpec.ofChange Rows.fnExactAddNodeSpec) false w args)
      (Rows.fnExactAddNodeSpec.post enc Tryd.prog Tryd.f3 false true false false) := by
  refine returnsInHanded_of_change_and (C := Tryd.checked) (X := fun w _ => laidMetH Tryd.prog Rows.fnExactAddNodeRow.laid w) (fun _ _ _ hh h => h.of_heap hh) own started (by kernel_rfl) Tryd.func3
    (ChangeSpec.witness_shaped (enc := enc) (C := Tryd.checked) (os := os) (X := fun w _ => laidMetH Tryd.prog Rows.fnExactAddNodeRow.laid w) false (World.doorLaid Tryd.prog 200 os) #[.agg #[.int .i64 0, .int .i64 0, .string ⟨#[]⟩, .slice none 0 0, .slice none 0 0], .slice none 0 0, .agg #[.int .i64 0, .int .i64 0, .string ⟨#[]⟩, .slice none 0 0, .slice none 0 0]] 8 rfl (World.shaped_of_RefB (by kernel_rfl) (by kernel_rfl)) (by kernel_rfl) (by kernel_rfl) (by kernel_rfl) (door_met os _)) ?_
  intro W base args ds gs before hval0 hW hcnd hsz hL _
  have hval : ∀ (j : Nat) t v, Tryd.f3.params[j]? = some t → args[j]? = some v → Value.okWide Tryd.prog W .any base t v := hval0
  have hW' := hW
  obtain ⟨p, q, hA0, hV, rfl, hfz, hnd⟩ := hW
  have hA : DataW.TrodAll enc Tryd.prog W 0 (fun _ => true) true Tryd.f3.params.toList args.toList ds p := hA0
  rw [Tryd.params3] at hA hval
  obtain ⟨v0, vs0, d0, ds0, p0, q0, hargs, rfl, rfl, h0, r0⟩ := trodAll_cons hA
  obtain ⟨v1, vs1, d1, ds1, p1, q1, rfl, rfl, rfl, h1, r1⟩ := trodAll_cons r0
  obtain ⟨v2, vs2, d2, ds2, p2, q2, rfl, rfl, rfl, h2, r2⟩ := trodAll_cons r1
  obtain ⟨rfl, rfl, rfl⟩ := trodAll_nil r2
  obtain rfl : args = #[v0, v1, v2] := by cases args; simp_all
  obtain ⟨rfl, rfl⟩ := trodVars_none hV
  obtain ⟨⟨c0⟩, rfl, -⟩ := okWide_struct Tryd.underlying25 (hval 0 25 v0 rfl rfl)
  have k0 := h0
  have lt0 : ∀ x ∈ p0, x.block < W.heap.size := by obtain ⟨m, hm⟩ := k0; exact DataW.trod_lt m _ _ _ hm
  have w0 : ∀ m ∈ DataW.weights Tryd.prog 25 d0, m ≤ reachBytes := fun m hm => by simpa using List.all_eq_true.1 hsz _ (DataW.weights_mem_each (j := 0) (t := 25) (d := d0) rfl rfl m hm)
  obtain ⟨m0, hm0⟩ := h0
  obtain ⟨_, ⟨s0, rfl⟩, hl0, hp0⟩ := Go.Rs.rd_node tyN m0 _ _ hm0 w0
  obtain ⟨a1, len1, cap1, rfl⟩ := okWide_slice Tryd.underlying22 (hval 1 22 v1 rfl rfl)
  have k1 := h1
  have lt1 : ∀ x ∈ p1, x.block < W.heap.size := by obtain ⟨m, hm⟩ := k1; exact DataW.trod_lt m _ _ _ hm
  have w1 : ∀ m ∈ DataW.weights Tryd.prog 22 d1, m ≤ reachBytes := fun m hm => by simpa using List.all_eq_true.1 hsz _ (DataW.weights_mem_each (j := 1) (t := 22) (d := d1) rfl rfl m hm)
  obtain ⟨m1, hm1⟩ := h1
  obtain ⟨_, ⟨l1, rfl⟩, -, hp1⟩ := Go.Rs.rd_ss tyN m1 _ _ hm1 w1
  have e1 : Go.Rs.Rep Go.Rs.noU Go.Rs.noν (Go.Rs.topG W) W (.slice a1 len1 cap1) (.ps .str l1) := hp1 0 (show (0 : Nat) < 1 from by decide)
  obtain ⟨⟨c2⟩, rfl, -⟩ := okWide_struct Tryd.underlying25 (hval 2 25 v2 rfl rfl)
  have k2 := h2
  have lt2 : ∀ x ∈ p2, x.block < W.heap.size := by obtain ⟨m, hm⟩ := k2; exact DataW.trod_lt m _ _ _ hm
  have w2 : ∀ m ∈ DataW.weights Tryd.prog 25 d2, m ≤ reachBytes := fun m hm => by simpa using List.all_eq_true.1 hsz _ (DataW.weights_mem_each (j := 2) (t := 25) (d := d2) rfl rfl m hm)
  obtain ⟨m2, hm2⟩ := h2
  obtain ⟨_, ⟨s2, rfl⟩, hl2, hp2⟩ := Go.Rs.rd_node tyN m2 _ _ hm2 w2
  clear hA0 hval0
  refine (Go.Rs.law_args (P := Tryd.prog) (f := 3) Go.Rs.s3.1 (args := [.st (Go.Rs.ndC s0), .ps .str l1, .st (Go.Rs.ndC s2)]) (.cons (S := []) (S' := []) (.val (.st (Go.Rs.ics_of hl0 (fun q hq => by have := hp0 q hq; rwa [Nat.zero_add] at this) (by simp [Go.Rs.enc, Go.Rs.ndC])))) (.cons (S := []) (S' := []) (.val (.cell (.per e1 rfl))) (.cons (S := []) (S' := []) (.val (.st (Go.Rs.ics_of hl2 (fun q hq => by have := hp2 q hq; rwa [Nat.zero_add] at this) (by simp [Go.Rs.enc, Go.Rs.ndC])))) .nil))) (fun K hk => ⟨⟨Go.Rs.pc_bdN (off := 0) hp0, Go.Rs.rep_bdT e1, Go.Rs.pc_bdN (off := 0) hp2⟩, hk⟩) (Go.Rs.tabs_none rfl rfl)).mono fun e W' ⟨he, bel⟩ => ?_
  subst he
  exact ⟨_, rfl, _, _, _, [], _, [], hW', trodAll_mk1 (shut_bool Tryd.underlying4 _), (trodAll_cons_mk (Below.trod laidOut (by kernel_rfl) (of_decide_eq_true (by kernel_rfl)) k0 bel lt0) (trodAll_cons_mk (Below.trod laidOut (by kernel_rfl) (of_decide_eq_true (by kernel_rfl)) k1 bel lt1) (trodAll_cons_mk (Below.trod laidOut (by kernel_rfl) (of_decide_eq_true (by kernel_rfl)) k2 bel lt2) trodAll_mk0))), rfl, bel.frame _, fun h => by cases h⟩

theorem over : Rows.fnExactAddNodeRow.holds Tryd.pinned (OpenSpec.ofChange Rows.fnExactAddNodeSpec) :=
  OpenClaim.holds_of_wide 3 Tryd.f3 rfl rfl rfl rfl rfl rfl rfl ⟨rfl, rfl, rfl, rfl, rfl⟩ rfl rfl rfl rfl rfl (by as_aux_lemma => kernel_rfl) Tryd.func3 (by as_aux_lemma => kernel_rfl)
    (of_decide_eq_true (by as_aux_lemma => kernel_rfl)) (by unfold Func.isWrapper; first | (rw [if_pos (by decide +kernel)]; kernel_rfl) | (rw [if_neg (by decide +kernel)]; exact ⟨rfl, rfl⟩))
    (fun os started H enc _ => lifted os started H enc)

theorem proved : Rows.FnExactAddNodeCardSaid :=
  Claim7.holds_tied_plain_at .later [] [.data, .data, .data] true (true, "3e2eff1517c0209f9cde465a7ded81977c1b392eb2ba9462ae45c990c64ffc54") false
    over (fun _ h => by cases h) (by kernel_rfl) (fun _ h => by cases h) fnExactAddNode_row_tie rfl ⟨rfl, rfl⟩ (by kernel_rfl) rfl
    (fun f fn hf hfn => by
      obtain rfl : f = 3 := Option.some.inj ((show Tryd.prog.funcNamed "loop.example/resourcestore/laws.FnExactAddNode" = some 3 by kernel_rfl).symm.trans hf) |>.symm
      obtain rfl : fn = Tryd.f3 := (Option.some.inj (Tryd.func3.symm.trans hfn)).symm
      exact ⟨by kernel_rfl, fun j t ht => by
        rw [Tryd.params3] at ht
        rcases j with _ | _ | _ | j
        · obtain rfl : t = 25 := by simpa using ht.symm
          exact (show Tryd.prog.wantsStandIn 25 = false by kernel_rfl)
        · obtain rfl : t = 22 := by simpa using ht.symm
          exact (show Tryd.prog.wantsStandIn 22 = false by kernel_rfl)
        · obtain rfl : t = 25 := by simpa using ht.symm
          exact (show Tryd.prog.wantsStandIn 25 = false by kernel_rfl)
        · simp at ht⟩)
    (by kernel_rfl)
#print axioms proved
end Go.Proofs.YtmkgadogaefkaaaDoor.fnExactAddNode
