/-
  The program's law FnExactFormatRequest returns true for every request, and leaves it as it was: FormatRequest returns what the reference's returns.
The program's law FnExactFormatRequest returns true for every request, and leaves it as it was: FormatRequest returns what the reference's returns.
  Conditions: none beyond the given row's own: the arguments are trees as the row reads them; the text is compiled over the given rows of the seat.
-/
import Derived.Test.YtmgheiagnleeiaaDoorRows
import Derived.WalkKit
import Derived.ProofKit
import Derived.OpenShut
import Derived.ShutString
import Derived.ChangeOld
import Derived.Below
import Derived.SizedLaws
import Derived.LaidMore
import Derived.LaidHandle
import Derived.SevenTiedAt
import Derived.Lib.LaidTab
import Derived.Lib.ItoaNum
import Derived.Test.YtmgheiagnleeiaaDoorCards
import Derived.Test.YtmgheiagnleeiaaDoorTie
import Derived.Test.YtmgheiagnleeiaaDoorTr
import Derived.Test.YtmgheiagnleeiaaDoorRF
set_option linter.all false
namespace Go.Proofs.YtmgheiagnleeiaaDoor.fnExactFormatRequest
open Go.ChangeShapes Go.WideShapes Go.ChangeAt Go.RowKit
open Go.ChangeMaps (open_string shut_string)

theorem own : ownKnob Tryd.prog.godebug = none := by kernel_rfl
theorem laidOut : laidOutB Tryd.prog = true := by kernel_rfl

/-- The door's own heap meets the condition. -/
theorem door_met (os : Os) (args : Array Value) : laidMetH Tryd.prog Rows.fnExactFormatRequestRow.laid ((World.doorLaid Tryd.prog 200 os).forCall (fun _ _ => 0) ⟨#[], args, []⟩).memory :=
  laidMetH_of_parts3 (fuel := 8) (laidMet_of_run' 8 (by kernel_rfl) (by kernel_rfl)) (by kernel_rfl) (by kernel_rfl)

theorem laid_tab {P : Program} {W : World} {name : String} {k : IntKind} {zs : List Int} {g : Nat} {t e : TypeId} {n : Nat}
    (hg : P.globalNamed name = some g) (hty : (P.globals[g]?).map (·.type) = some t) (ht : P.underlying t = some (.array n e)) (he : P.underlying e = some (.int k)) (hce : P.cellsOf e = 1) (hct : P.cellsOf t = n) :
    ∀ {l : List (String × DataW Unit)} {ps : List MemPlace}, DataW.LaidVars P W l ps → (name, Lib.tabData k zs) ∈ l → Lib.TabIs P W name k zs
  | [], _, _, hm => by simp at hm
  | (nm, d) :: l, ps, h, hm => by
    obtain ⟨g', t', cs, fuel, p, q, hg', ht', hvar, hd, hrest, _⟩ := h
    rcases List.mem_cons.1 hm with e1 | hm
    · cases e1
      obtain rfl := Option.some.inj (hg.symm.trans hg')
      obtain rfl := Option.some.inj (hty.symm.trans ht')
      unfold Lib.TabIs
      rw [hvar, ← Lib.cells_of_tab ht he hce hct hd]
    · exact laid_tab hg hty ht he hce hct hrest hm
theorem pow_heap {W : World} {nm : String} {g : Nat} (h : Lib.TabIs Tryd.prog W nm .u64 Lib.pow10Tab) (hg : Tryd.prog.globalNamed nm = some g) : ∃ T fz, W.heap[g]? = some (.cells (Go.Rs.pow10L.map fun z => Value.int .u64 z).toArray T fz) := by
  unfold Lib.TabIs World.var? at h
  rw [hg] at h
  simp only [Option.bind_some] at h
  split at h
  · rename_i cs T fz hc
    cases h
    exact ⟨T, fz, hc⟩
  · cases h
/-- The table of powers of ten, as the row's condition has it. -/
theorem tabs {W : World} (hL : laidMetH Tryd.prog Rows.fnExactFormatRequestRow.laid W) : Go.Rs.Tabs W := by
  have h1 : laidMet Tryd.prog Rows.fnExactFormatRequestRow.laid W := hL
  obtain ⟨ps, hps, -⟩ := h1
  have h2 := laid_tab (P := Tryd.prog) (W := W) (k := .u64) (zs := Lib.pow10Tab) (g := 1) (t := 112) (e := 105) (n := 20) (by kernel_rfl) (by kernel_rfl) (by kernel_rfl) (by kernel_rfl) (by kernel_rfl) (by kernel_rfl) hps (List.Mem.tail _ (List.Mem.tail _ (List.Mem.head _)))
  refine ⟨fun g hg => ?_, fun g hg => ?_⟩
  · have e : 1 + 1 = g + 1 := hg
    have e : 1 = g := by omega
    subst e
    exact pow_heap h2 (by kernel_rfl)
  · cases hg
theorem tyN : Go.Rs.TyN Tryd.prog 3 9 22 25 23 := ⟨Tryd.underlying3, Tryd.underlying9, Tryd.underlying22, ⟨⟨_, Tryd.underlying25, rfl⟩, by kernel_rfl, by intro x hx; simp only [List.mem_cons, List.not_mem_nil, or_false] at hx; rcases hx with rfl | rfl | rfl | rfl | rfl <;> kernel_rfl⟩, Tryd.underlying23, by kernel_rfl, of_decide_eq_true (by kernel_rfl), of_decide_eq_true (by kernel_rfl)⟩
theorem tyOp : Go.Rs.StT Tryd.prog 63 [(3, Go.Rs.fI, 1), (22, Go.Rs.fL .str, 1), (22, Go.Rs.fL .str, 1), (25, Go.Rs.fE .node, 5)] := ⟨⟨_, Tryd.underlying63, rfl⟩, by kernel_rfl, by intro x hx; simp only [List.mem_cons, List.not_mem_nil, or_false] at hx; rcases hx with rfl | rfl | rfl | rfl <;> kernel_rfl⟩
theorem tyRq : Go.Rs.StT Tryd.prog 28 [(3, Go.Rs.fI, 1), (9, Go.Rs.fS, 1), (22, Go.Rs.fL .str, 1), (22, Go.Rs.fL .str, 1), (25, Go.Rs.fE .node, 5), (26, Go.Rs.fL .opn, 1)] := ⟨⟨_, Tryd.underlying28, rfl⟩, by kernel_rfl, by intro x hx; simp only [List.mem_cons, List.not_mem_nil, or_false] at hx; rcases hx with rfl | rfl | rfl | rfl | rfl | rfl <;> kernel_rfl⟩

set_option maxRecDepth 100000 in
theorem lifted (os : Os) (started : os.Started) (H : Type) (enc : TypeId × Value → H) :
    ReturnsInHanded {} Tryd.checked os 3 .any (fun w args => (Rows.fnExactFormatRequestSpec.pre enc Tryd.prog Tryd.f3 Rows.fnExactFormatRequestRow.domain false w args ∧ laidMetH Tryd.prog Rows.fnExactFormatRequestRow.laid w) ∧ sizedMet enc Tryd.prog Tryd.f3 (OpenSpec.ofChange Rows.fnExactFormatRequestSpec) false w args)
      (Rows.fnExactFormatRequestSpec.post enc Tryd.prog Tryd.f3 false true false false) := by
  refine returnsInHanded_of_change_and (C := Tryd.checked) (X := fun w _ => laidMetH Tryd.prog Rows.fnExactFormatRequestRow.laid w) (fun _ _ _ hh h => h.of_heap hh) own started (by kernel_rfl) Tryd.func3
    (ChangeSpec.witness_shaped (enc := enc) (C := Tryd.checked) (os := os) (X := fun w _ => laidMetH Tryd.prog Rows.fnExactFormatRequestRow.laid w) false (World.doorLaid Tryd.prog 200 os) #[.agg #[.int .i64 0, .string ⟨#[]⟩, .slice none 0 0, .slice none 0 0, .int .i64 0, .int .i64 0, .string ⟨#[]⟩, .slice none 0 0, .slice none 0 0, .slice none 0 0]] 8 rfl (World.shaped_of_RefB (by kernel_rfl) (by kernel_rfl)) (by kernel_rfl) (by kernel_rfl) (by kernel_rfl) (door_met os _)) ?_
  intro W base args ds gs before hval0 hW hcnd hsz hL _
  have hval : ∀ (j : Nat) t v, Tryd.f3.params[j]? = some t → args[j]? = some v → Value.okWide Tryd.prog W .any base t v := hval0
  have hW' := hW
  obtain ⟨p, q, hA0, hV, rfl, hfz, hnd⟩ := hW
  have hA : DataW.TrodAll enc Tryd.prog W 0 (fun _ => true) true Tryd.f3.params.toList args.toList ds p := hA0
  rw [Tryd.params3] at hA hval
  obtain ⟨v0, vs0, d0, ds0, p0, q0, hargs, rfl, rfl, h0, r0⟩ := trodAll_cons hA
  obtain ⟨rfl, rfl, rfl⟩ := trodAll_nil r0
  obtain rfl : args = #[v0] := by cases args; simp_all
  obtain ⟨rfl, rfl⟩ := trodVars_none hV
  obtain ⟨⟨c0⟩, rfl, -⟩ := okWide_struct Tryd.underlying28 (hval 0 28 v0 rfl rfl)
  have k0 := h0
  have lt0 : ∀ x ∈ p0, x.block < W.heap.size := by obtain ⟨m, hm⟩ := k0; exact DataW.trod_lt m _ _ _ hm
  have w0 : ∀ m ∈ DataW.weights Tryd.prog 28 d0, m ≤ reachBytes := fun m hm => by simpa using List.all_eq_true.1 hsz _ (DataW.weights_mem_each (j := 0) (t := 28) (d := d0) rfl rfl m hm)
  obtain ⟨m0, hm0⟩ := h0
  obtain ⟨_, ⟨s0, rfl⟩, hl0, hp0⟩ := Go.Rs.rd_req tyN (Go.Rs.rd_ops tyN tyOp Tryd.underlying26 (of_decide_eq_true (by kernel_rfl))) tyRq m0 _ _ hm0 w0
  clear hA0 hval0
  refine (Go.Rs.law_args (P := Tryd.prog) (f := 3) Go.Rs.s3.1 (args := [.st (Go.Rs.rqC s0)]) (.cons (S := []) (S' := []) (.val (.st (Go.Rs.ics_of hl0 (fun q hq => by have := hp0 q hq; rwa [Nat.zero_add] at this) (by simp [Go.Rs.rqC, Go.Rs.enc, Go.Rs.ndC])))) .nil) (fun K hk => ⟨Go.Rs.pc_bdR hp0, hk⟩) (tabs hL)).mono fun e W' ⟨he, bel⟩ => ?_
  subst he
  exact ⟨_, rfl, _, _, _, [], _, [], hW', trodAll_mk1 (shut_bool Tryd.underlying4 _), (trodAll_cons_mk (Below.trod laidOut (by kernel_rfl) (of_decide_eq_true (by kernel_rfl)) k0 bel lt0) trodAll_mk0), rfl, bel.frame _, fun h => by cases h⟩

theorem over : Rows.fnExactFormatRequestRow.holds Tryd.pinned (OpenSpec.ofChange Rows.fnExactFormatRequestSpec) :=
  OpenClaim.holds_of_wide 3 Tryd.f3 rfl rfl rfl rfl rfl rfl rfl ⟨rfl, rfl, rfl, rfl, rfl⟩ rfl rfl rfl rfl rfl (by as_aux_lemma => kernel_rfl) Tryd.func3 (by as_aux_lemma => kernel_rfl)
    (of_decide_eq_true (by as_aux_lemma => kernel_rfl)) (by unfold Func.isWrapper; first | (rw [if_pos (by decide +kernel)]; kernel_rfl) | (rw [if_neg (by decide +kernel)]; exact ⟨rfl, rfl⟩))
    (fun os started H enc _ => lifted os started H enc)

theorem proved : Rows.FnExactFormatRequestCardSaid :=
  Claim7.holds_tied_plain_at .later [] [.data, .data, .data] true (true, "87fd743de4a574118b2ba600807d5d44e934f67f0660367d51fdba18bd0a31f1") false
    over (fun _ h => by cases h) (by kernel_rfl) (fun _ h => by cases h) fnExactFormatRequest_row_tie rfl ⟨rfl, rfl⟩ (by kernel_rfl) rfl
    (fun f fn hf hfn => by
      obtain rfl : f = 3 := Option.some.inj ((show Tryd.prog.funcNamed "loop.example/resourcestore/laws.FnExactFormatRequest" = some 3 by kernel_rfl).symm.trans hf) |>.symm
      obtain rfl : fn = Tryd.f3 := (Option.some.inj (Tryd.func3.symm.trans hfn)).symm
      exact ⟨by kernel_rfl, fun j t ht => by
        rw [Tryd.params3] at ht
        rcases j with _ | j
        · obtain rfl : t = 28 := by simpa using ht.symm
          exact (show Tryd.prog.wantsStandIn 28 = false by kernel_rfl)
        · simp at ht⟩)
    (by kernel_rfl)
#print axioms proved
end Go.Proofs.YtmgheiagnleeiaaDoor.fnExactFormatRequest
