/-
  The program's law FnExactSelectStore returns true for every store and every slice of filters, and leaves both as they were: SelectStore returns what the reference's returns.
  Conditions: none beyond the given row's own: the arguments are trees as the row reads them; the text is compiled over the given rows of the seat.
-/
import Derived.Test.YtfaaemggaliojaaGreatDoorRows
import Derived.WalkKit
import Derived.ProofKit
import Derived.OpenShut
import Derived.ShutString
import Derived.ChangeOld
import Derived.Below
import Derived.SizedLaws
import Derived.LaidMore
import Derived.LaidHandle
import Derived.SevenTiedAt
import Derived.Test.YtfaaemggaliojaaGreatDoorCards
import Derived.Test.YtfaaemggaliojaaGreatDoorTie
import Derived.Test.YtfaaemggaliojaaGreatDoorTr
import Derived.Test.YtfaaemggaliojaaGreatDoorLW
set_option linter.all false
namespace Go.Proofs.YtfaaemggaliojaaGreatDoor.fnExactSelectStore
open Go.ChangeShapes Go.WideShapes Go.ChangeAt Go.RowKit
open Go.ChangeMaps (open_string shut_string)

theorem own : ownKnob Tryz.prog.godebug = none := by kernel_rfl
theorem laidOut : laidOutB Tryz.prog = true := by kernel_rfl

/-- The door's own heap meets the condition. -/
theorem door_met (os : Os) (args : Array Value) : laidMetH Tryz.prog Rows.fnExactSelectStoreRow.laid ((World.doorLaid Tryz.prog 200 os).forCall (fun _ _ => 0) ⟨#[], args, []⟩).memory :=
  laidMetH_of_parts3 (fuel := 8) (laidMet_of_run' 8 (by kernel_rfl) (by kernel_rfl)) (by kernel_rfl) (by kernel_rfl)

theorem tyN : Go.Rs.TyN Tryz.prog 3 9 42 45 43 := ⟨Tryz.underlying3, Tryz.underlying9, Tryz.underlying42, ⟨⟨_, Tryz.underlying45, rfl⟩, by kernel_rfl, by intro x hx; simp only [List.mem_cons, List.not_mem_nil, or_false] at hx; rcases hx with rfl | rfl | rfl | rfl | rfl <;> kernel_rfl⟩, Tryz.underlying43, by kernel_rfl, of_decide_eq_true (by kernel_rfl), of_decide_eq_true (by kernel_rfl)⟩
theorem tyIt : Go.Rs.StT Tryz.prog 70 [(9, Go.Rs.fS, 1), (3, Go.Rs.fI, 1), (45, Go.Rs.fE .node, 5)] := ⟨⟨_, Tryz.underlying70, rfl⟩, by kernel_rfl, by intro x hx; simp only [List.mem_cons, List.not_mem_nil, or_false] at hx; rcases hx with rfl | rfl | rfl <;> kernel_rfl⟩
theorem tySto : Go.Rs.StT Tryz.prog 24 [(22, Go.Rs.fL .item, 1), (3, Go.Rs.fI, 1)] := ⟨⟨_, Tryz.underlying24, rfl⟩, by kernel_rfl, by intro x hx; simp only [List.mem_cons, List.not_mem_nil, or_false] at hx; rcases hx with rfl | rfl <;> kernel_rfl⟩
theorem tyFl : Go.Rs.StT Tryz.prog 47 [(42, Go.Rs.fL .str, 1), (3, Go.Rs.fI, 1), (45, Go.Rs.fE .node, 5)] := ⟨⟨_, Tryz.underlying47, rfl⟩, by kernel_rfl, by intro x hx; simp only [List.mem_cons, List.not_mem_nil, or_false] at hx; rcases hx with rfl | rfl | rfl <;> kernel_rfl⟩

set_option maxRecDepth 100000 in
theorem lifted (os : Os) (started : os.Started) (H : Type) (enc : TypeId × Value → H) :
    ReturnsInHanded {} Tryz.checked os 3 .any (fun w args => (Rows.fnExactSelectStoreSpec.pre enc Tryz.prog Tryz.f3 Rows.fnExactSelectStoreRow.domain false w args ∧ laidMetH Tryz.prog Rows.fnExactSelectStoreRow.laid w) ∧ sizedMet enc Tryz.prog Tryz.f3 (OpenSpec.ofChange Rows.fnExactSelectStoreSpec) false w args)
      (Rows.fnExactSelectStoreSpec.post enc Tryz.prog Tryz.f3 false true false false) := by
  refine returnsInHanded_of_change_and (C := Tryz.checked) (X := fun w _ => laidMetH Tryz.prog Rows.fnExactSelectStoreRow.laid w) (fun _ _ _ hh h => h.of_heap hh) own started (by kernel_rfl) Tryz.func3
    (ChangeSpec.witness_shaped (enc := enc) (C := Tryz.checked) (os := os) (X := fun w _ => laidMetH Tryz.prog Rows.fnExactSelectStoreRow.laid w) false (World.doorLaid Tryz.prog 200 os) #[.agg #[.slice none 0 0, .int .i64 0], .slice none 0 0] 8 rfl (World.shaped_of_RefB (by kernel_rfl) (by kernel_rfl)) (by kernel_rfl) (by kernel_rfl) (by kernel_rfl) (door_met os _)) ?_
  intro W base args ds gs before hval0 hW hcnd hsz hL _
  have hval : ∀ (j : Nat) t v, Tryz.f3.params[j]? = some t → args[j]? = some v → Value.okWide Tryz.prog W .any base t v := hval0
  have hW' := hW
  obtain ⟨p, q, hA0, hV, rfl, hfz, hnd⟩ := hW
  have hA : DataW.TrodAll enc Tryz.prog W 0 (fun _ => true) true Tryz.f3.params.toList args.toList ds p := hA0
  rw [Tryz.params3] at hA hval
  obtain ⟨v0, vs0, d0, ds0, p0, q0, hargs, rfl, rfl, h0, r0⟩ := trodAll_cons hA
  obtain ⟨v1, vs1, d1, ds1, p1, q1, rfl, rfl, rfl, h1, r1⟩ := trodAll_cons r0
  obtain ⟨rfl, rfl, rfl⟩ := trodAll_nil r1
  obtain rfl : args = #[v0, v1] := by cases args; simp_all
  obtain ⟨rfl, rfl⟩ := trodVars_none hV
  obtain ⟨⟨c0⟩, rfl, -⟩ := okWide_struct Tryz.underlying24 (hval 0 24 v0 rfl rfl)
  have k0 := h0
  have lt0 : ∀ x ∈ p0, x.block < W.heap.size := by obtain ⟨m, hm⟩ := k0; exact DataW.trod_lt m _ _ _ hm
  have w0 : ∀ m ∈ DataW.weights Tryz.prog 24 d0, m ≤ reachBytes := fun m hm => by simpa using List.all_eq_true.1 hsz _ (DataW.weights_mem_each (j := 0) (t := 24) (d := d0) rfl rfl m hm)
  obtain ⟨m0, hm0⟩ := h0
  obtain ⟨_, ⟨s0, rfl⟩, hl0, hp0⟩ := Go.Rs.rd_store Tryz.underlying3 (Go.Rs.rd_items tyN tyIt Tryz.underlying22 (of_decide_eq_true (by kernel_rfl))) tySto m0 _ _ hm0 w0
  obtain ⟨a1, len1, cap1, rfl⟩ := okWide_slice Tryz.underlying25 (hval 1 25 v1 rfl rfl)
  have k1 := h1
  have lt1 : ∀ x ∈ p1, x.block < W.heap.size := by obtain ⟨m, hm⟩ := k1; exact DataW.trod_lt m _ _ _ hm
  have w1 : ∀ m ∈ DataW.weights Tryz.prog 25 d1, m ≤ reachBytes := fun m hm => by simpa using List.all_eq_true.1 hsz _ (DataW.weights_mem_each (j := 1) (t := 25) (d := d1) rfl rfl m hm)
  obtain ⟨m1, hm1⟩ := h1
  obtain ⟨_, ⟨l1, rfl⟩, -, hp1⟩ := Go.Rs.rd_flts tyN tyFl Tryz.underlying25 (of_decide_eq_true (by kernel_rfl)) m1 _ _ hm1 w1
  have e1 : Go.Rs.Rep Go.Rs.noU Go.Rs.noν (Go.Rs.topG W) W (.slice a1 len1 cap1) (.ps .flt l1) := hp1 0 (show (0 : Nat) < 1 from by decide)
  clear hA0 hval0
  refine (Go.Rs.law_args (P := Tryz.prog) (f := 3) Go.Rs.s3.1 (args := [.st (Go.Rs.stC s0), .ps .flt l1]) (.cons (S := []) (S' := []) (.val (.st (Go.Rs.ics_of hl0 (fun q hq => by have := hp0 q hq; rwa [Nat.zero_add] at this) (by simp [Go.Rs.stC])))) (.cons (S := []) (S' := []) (.val (.cell (.per e1 rfl))) .nil)) (fun K hk => ⟨⟨Go.Rs.rep_bdI (hp0 0 (show (0 : Nat) < 2 from by decide)), Go.Rs.rep_bdF e1⟩, hk⟩) (Go.Rs.tabs_none rfl rfl)).mono fun e W' ⟨he, bel⟩ => ?_
  subst he
  exact ⟨_, rfl, _, _, _, [], _, [], hW', trodAll_mk1 (shut_bool Tryz.underlying4 _), (trodAll_cons_mk (Below.trod laidOut (by kernel_rfl) (of_decide_eq_true (by kernel_rfl)) k0 bel lt0) (trodAll_cons_mk (Below.trod laidOut (by kernel_rfl) (of_decide_eq_true (by kernel_rfl)) k1 bel lt1) trodAll_mk0)), rfl, bel.frame _, fun h => by cases h⟩

theorem over : Rows.fnExactSelectStoreRow.holds Tryz.pinned (OpenSpec.ofChange Rows.fnExactSelectStoreSpec) :=
  OpenClaim.holds_of_wide 3 Tryz.f3 rfl rfl rfl rfl rfl rfl rfl ⟨rfl, rfl, rfl, rfl, rfl⟩ rfl rfl rfl rfl rfl (by as_aux_lemma => kernel_rfl) Tryz.func3 (by as_aux_lemma => kernel_rfl)
    (of_decide_eq_true (by as_aux_lemma => kernel_rfl)) (by unfold Func.isWrapper; first | (rw [if_pos (by decide +kernel)]; kernel_rfl) | (rw [if_neg (by decide +kernel)]; exact ⟨rfl, rfl⟩))
    (fun os started H enc _ => lifted os started H enc)

theorem proved : Rows.FnExactSelectStoreCardSaid :=
  Claim7.holds_tied_plain_at .later [] [.data, .data, .data] true (true, "ee9d3e31915a8d29ed03441500230ba5b1682bfdca92169fb6cc95d3ef8f68a7") false
    over (fun _ h => by cases h) (by kernel_rfl) (fun _ h => by cases h) fnExactSelectStore_row_tie rfl ⟨rfl, rfl⟩ (by kernel_rfl) rfl
    (fun f fn hf hfn => by
      obtain rfl : f = 3 := Option.some.inj ((show Tryz.prog.funcNamed "loop.example/resourcestore/laws.FnExactSelectStore" = some 3 by kernel_rfl).symm.trans hf) |>.symm
      obtain rfl : fn = Tryz.f3 := (Option.some.inj (Tryz.func3.symm.trans hfn)).symm
      exact ⟨by kernel_rfl, fun j t ht => by
        rw [Tryz.params3] at ht
        rcases j with _ | _ | j
        · obtain rfl : t = 24 := by simpa using ht.symm
          exact (show Tryz.prog.wantsStandIn 24 = false by kernel_rfl)
        · obtain rfl : t = 25 := by simpa using ht.symm
          exact (show Tryz.prog.wantsStandIn 25 = false by kernel_rfl)
        · simp at ht⟩)
    (by kernel_rfl)
#print axioms proved
end Go.Proofs.YtfaaemggaliojaaGreatDoor.fnExactSelectStore
