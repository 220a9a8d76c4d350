/-
  The program's law FnTagOf returns true for every slice of bytes, and leaves it as it was: equal nodes have equal tags.
The program's law FnTagOf returns true for every slice of bytes, and leaves it as it was: equal nodes have equal tags.
  Conditions: none beyond the given row's own: the argument is a slice of bytes as the row reads it; the text is compiled over the given rows of the seat.
-/
import Derived.Test.YtdgdekfdfcaheaaDoorRows
import Derived.WalkKit
import Derived.ProofKit
import Derived.OpenShut
import Derived.ShutString
import Derived.ChangeOld
import Derived.Below
import Derived.SizedLaws
import Derived.LaidMore
import Derived.LaidHandle
import Derived.SevenTiedAt
import Derived.Lib.LaidTab
import Derived.Lib.ItoaNum
import Derived.Test.YtdgdekfdfcaheaaDoorCards
import Derived.Test.YtdgdekfdfcaheaaDoorTie
import Derived.Test.YtdgdekfdfcaheaaDoorBr
import Derived.Test.YtdgdekfdfcaheaaDoorQU
set_option linter.all false
namespace Go.Proofs.YtdgdekfdfcaheaaDoor.fnTagOf
open Go.ChangeShapes Go.WideShapes Go.ChangeAt Go.RowKit
open Go.ChangeMaps (open_string shut_string)

theorem own : ownKnob Tryd.prog.godebug = none := by kernel_rfl
theorem laidOut : laidOutB Tryd.prog = true := by kernel_rfl

/-- The door's own heap meets the condition. -/
theorem door_met (os : Os) (args : Array Value) : laidMetH Tryd.prog Rows.fnTagOfRow.laid ((World.doorLaid Tryd.prog 200 os).forCall (fun _ _ => 0) ⟨#[], args, []⟩).memory :=
  laidMetH_of_parts3 (fuel := 8) (laidMet_of_run' 8 (by kernel_rfl) (by kernel_rfl)) (by kernel_rfl) (by kernel_rfl)

theorem laid_tab {P : Program} {W : World} {name : String} {k : IntKind} {zs : List Int} {g : Nat} {t e : TypeId} {n : Nat}
    (hg : P.globalNamed name = some g) (hty : (P.globals[g]?).map (·.type) = some t) (ht : P.underlying t = some (.array n e)) (he : P.underlying e = some (.int k)) (hce : P.cellsOf e = 1) (hct : P.cellsOf t = n) :
    ∀ {l : List (String × DataW Unit)} {ps : List MemPlace}, DataW.LaidVars P W l ps → (name, Lib.tabData k zs) ∈ l → Lib.TabIs P W name k zs
  | [], _, _, hm => by simp at hm
  | (nm, d) :: l, ps, h, hm => by
    obtain ⟨g', t', cs, fuel, p, q, hg', ht', hvar, hd, hrest, _⟩ := h
    rcases List.mem_cons.1 hm with e1 | hm
    · cases e1
      obtain rfl := Option.some.inj (hg.symm.trans hg')
      obtain rfl := Option.some.inj (hty.symm.trans ht')
      unfold Lib.TabIs
      rw [hvar, ← Lib.cells_of_tab ht he hce hct hd]
    · exact laid_tab hg hty ht he hce hct hrest hm
theorem pow_heap {W : World} {nm : String} {g : Nat} (h : Lib.TabIs Tryd.prog W nm .u64 Lib.pow10Tab) (hg : Tryd.prog.globalNamed nm = some g) : ∃ T fz, W.heap[g]? = some (.cells (Go.Rs.pow10L.map fun z => Value.int .u64 z).toArray T fz) := by
  unfold Lib.TabIs World.var? at h
  rw [hg] at h
  simp only [Option.bind_some] at h
  split at h
  · rename_i cs T fz hc
    cases h
    exact ⟨T, fz, hc⟩
  · cases h
theorem laid_err {P : Program} {W : World} {name : String} {g : Nat} {t : TypeId} {ms}
    (hg : P.globalNamed name = some g) (hty : (P.globals[g]?).map (·.type) = some t) (ht : P.underlying t = some (.interface ms)) :
    ∀ {l : List (String × DataW Unit)} {ps : List MemPlace}, DataW.LaidVars P W l ps → name ∈ l.map (·.1) → ∃ v, W.var? P name = some #[v] ∧ (v = .nilIface ∨ ∃ te pe, v = .iface te pe)
  | [], _, _, hm => by simp at hm
  | (nm, d) :: l, ps, h, hm => by
    obtain ⟨g', t', cs, fuel, p, q, hg', ht', hvar, hd, hrest, _⟩ := h
    by_cases e1 : name = nm
    · subst e1
      obtain rfl := Option.some.inj (hg.symm.trans hg')
      obtain rfl := Option.some.inj (hty.symm.trans ht')
      obtain ⟨l⟩ := cs
      cases fuel with
      | zero => unfold DataW.trod at hd; cases hd
      | succ fuel =>
        unfold DataW.trod at hd
        rw [ht] at hd
        simp only at hd
        split at hd
        all_goals first
          | (rename_i e2 e3; cases e2; done)
          | (exact ⟨_, hvar, .inl rfl⟩)
          | (exact ⟨_, hvar, .inr ⟨_, _, rfl⟩⟩)
          | (rename_i e2; cases e2; done)
          | (cases hd; done)
    · refine laid_err hg hty ht hrest ?_
      simp only [List.map_cons, List.mem_cons] at hm
      exact hm.resolve_left e1
theorem err_heap {W : World} {nm : String} {g : Nat} {v : Value} (h : W.var? Tryd.prog nm = some #[v]) (hg : Tryd.prog.globalNamed nm = some g) : ∃ T fz, W.heap[g]? = some (.cells #[v] T fz) := by
  unfold World.var? at h
  rw [hg] at h
  simp only [Option.bind_some] at h
  split at h
  · rename_i cs T fz hc
    cases h
    exact ⟨T, fz, hc⟩
  · cases h
/-- The table of powers of ten, as the row's condition has it. -/
theorem tabs {W : World} (hL : laidMetH Tryd.prog Rows.fnTagOfRow.laid W) : Go.Rs.Tabs W := by
  have h1 : laidMet Tryd.prog Rows.fnTagOfRow.laid W := hL
  obtain ⟨ps, hps, -⟩ := h1
  obtain ⟨v0, e0, i0⟩ := laid_err (P := Tryd.prog) (W := W) (name := "strconv.ErrSyntax") (g := 1) (t := 68) (by kernel_rfl) (by kernel_rfl) Tryd.underlying68 hps (List.Mem.tail _ (List.Mem.tail _ (List.Mem.tail _ (List.Mem.tail _ (List.Mem.head _)))))
  obtain ⟨v1, e1, i1⟩ := laid_err (P := Tryd.prog) (W := W) (name := "strconv.ErrRange") (g := 2) (t := 68) (by kernel_rfl) (by kernel_rfl) Tryd.underlying68 hps (List.Mem.tail _ (List.Mem.tail _ (List.Mem.tail _ (List.Mem.head _))))
  have h2 := laid_tab (P := Tryd.prog) (W := W) (k := .u64) (zs := Lib.pow10Tab) (g := 3) (t := 109) (e := 97) (n := 20) (by kernel_rfl) (by kernel_rfl) (by kernel_rfl) (by kernel_rfl) (by kernel_rfl) (by kernel_rfl) hps (List.Mem.tail _ (List.Mem.tail _ (List.Mem.head _)))
  refine ⟨fun g hg => ?_, fun g hg => ?_⟩
  · have e : 3 + 1 = g + 1 := hg
    have e : 3 = g := by omega
    subst e
    exact pow_heap h2 (by kernel_rfl)
  · have hm := Go.Rs.memN_mem.1 hg
    simp only [Go.Rs.EG, List.mem_cons, List.not_mem_nil, or_false] at hm
    rcases hm with rfl | rfl
    · obtain ⟨T, fz, hc⟩ := err_heap e0 (by kernel_rfl)
      exact ⟨v0, T, fz, hc, i0⟩
    · obtain ⟨T, fz, hc⟩ := err_heap e1 (by kernel_rfl)
      exact ⟨v1, T, fz, hc, i1⟩
set_option maxRecDepth 100000 in
theorem lifted (os : Os) (started : os.Started) (H : Type) (enc : TypeId × Value → H) :
    ReturnsInHanded {} Tryd.checked os 3 .any (fun w args => (Rows.fnTagOfSpec.pre enc Tryd.prog Tryd.f3 Rows.fnTagOfRow.domain false w args ∧ laidMetH Tryd.prog Rows.fnTagOfRow.laid w) ∧ sizedMet enc Tryd.prog Tryd.f3 (OpenSpec.ofChange Rows.fnTagOfSpec) false w args)
      (Rows.fnTagOfSpec.post enc Tryd.prog Tryd.f3 false true false false) := by
  refine returnsInHanded_of_change_and (C := Tryd.checked) (X := fun w _ => laidMetH Tryd.prog Rows.fnTagOfRow.laid w) (fun _ _ _ hh h => h.of_heap hh) own started (by kernel_rfl) Tryd.func3
    (ChangeSpec.witness_shaped (enc := enc) (C := Tryd.checked) (os := os) (X := fun w _ => laidMetH Tryd.prog Rows.fnTagOfRow.laid w) false (World.doorLaid Tryd.prog 200 os) #[.slice none 0 0] 8 rfl (World.shaped_of_RefB (by kernel_rfl) (by kernel_rfl)) (by kernel_rfl) (by kernel_rfl) (by kernel_rfl) (door_met os _)) ?_
  intro W base args ds gs before hval0 hW hcnd hsz hL _
  have hval : ∀ (j : Nat) t v, Tryd.f3.params[j]? = some t → args[j]? = some v → Value.okWide Tryd.prog W .any base t v := hval0
  have hW' := hW
  obtain ⟨p, q, hA0, hV, rfl, hfz, hnd⟩ := hW
  have hA : DataW.TrodAll enc Tryd.prog W 0 (fun _ => true) true Tryd.f3.params.toList args.toList ds p := hA0
  rw [Tryd.params3] at hA hval
  obtain ⟨v0, vs0, d0, ds0, p0, q0, hargs, rfl, rfl, h0, r0⟩ := trodAll_cons hA
  obtain ⟨rfl, rfl, rfl⟩ := trodAll_nil r0
  obtain rfl : args = #[v0] := by cases args; simp_all
  obtain ⟨rfl, rfl⟩ := trodVars_none hV
  obtain ⟨a0, len0, cap0, rfl⟩ := okWide_slice Tryd.underlying22 (hval 0 22 v0 rfl rfl)
  have k0 := h0
  have lt0 : ∀ x ∈ p0, x.block < W.heap.size := by obtain ⟨m, hm⟩ := k0; exact DataW.trod_lt m _ _ _ hm
  obtain ⟨z0, w0⟩ : ∃ zs, Go.Rs.isRow W a0 len0 cap0 zs := by
    obtain ⟨fuel, hf⟩ := h0
    rcases open_ints Tryd.underlying22 Tryd.underlying5 (by kernel_rfl) hf with ⟨hcs, _⟩ | ⟨x, l, c, zs, hcs, _, hl, hm, hz, hd, hcell, hwz⟩
    · simp [Value.cells] at hcs
      obtain ⟨rfl, rfl, rfl⟩ := hcs
      exact ⟨[], .inl ⟨rfl, rfl, rfl, rfl⟩⟩
    · simp [Value.cells] at hcs
      obtain ⟨rfl, rfl, rfl⟩ := hcs
      have hz' : zs.length = cap0 := by simpa using hz
      have hd0 : d0 = .slice (lits .u8 (zs.take len0)) (lits .u8 (zs.drop len0)) := congrArg Prod.fst hd
      have h9 := sized_slice hsz (j := 0) (t := 22) (by rfl) (by rw [hd0]; rfl) Tryd.underlying22
      have hb1 : Tryd.checked.prog.bytesOf 5 = 1 := by kernel_rfl
      rw [hb1] at h9
      have h8 : cap0 ≤ Go.Rs.MX := by
        simp [lits] at h9
        have := reachBytes_lt
        unfold Go.Rs.MX
        omega
      exact ⟨zs, .inr ⟨_, rfl, hl, h8, hz', hcell, hwz⟩⟩
  clear hA0 hval0
  refine (Go.Rs.law_bytes (P := Tryd.prog) (f := 3) Go.Rs.s3.1 (fun code K h1 h2 => ⟨h1, h2⟩) w0 (tabs hL)).mono fun e W' ⟨he, bel⟩ => ?_
  subst he
  exact ⟨_, rfl, _, _, _, [], _, [], hW', trodAll_mk1 (shut_bool Tryd.underlying4 _), (trodAll_cons_mk (Below.trod laidOut (by kernel_rfl) (of_decide_eq_true (by kernel_rfl)) k0 bel lt0) trodAll_mk0), rfl, bel.frame _, fun h => by cases h⟩

theorem over : Rows.fnTagOfRow.holds Tryd.pinned (OpenSpec.ofChange Rows.fnTagOfSpec) :=
  OpenClaim.holds_of_wide 3 Tryd.f3 rfl rfl rfl rfl rfl rfl rfl ⟨rfl, rfl, rfl, rfl, rfl⟩ rfl rfl rfl rfl rfl (by as_aux_lemma => kernel_rfl) Tryd.func3 (by as_aux_lemma => kernel_rfl)
    (of_decide_eq_true (by as_aux_lemma => kernel_rfl)) (by unfold Func.isWrapper; first | (rw [if_pos (by decide +kernel)]; kernel_rfl) | (rw [if_neg (by decide +kernel)]; exact ⟨rfl, rfl⟩))
    (fun os started H enc _ => lifted os started H enc)

theorem proved : Rows.FnTagOfCardSaid :=
  Claim7.holds_tied_plain_at .later [] [.data, .data, .data, .sentinel, .sentinel] true (true, "69ffe4d84a5a89e3702da725b613bca04c345a45cdae6bc9958dcc7dbf06b72b") true
    over (fun _ h => by cases h) (by kernel_rfl) (fun _ h => by cases h) fnTagOf_row_tie rfl ⟨rfl, rfl⟩ (by kernel_rfl) rfl
    (fun f fn hf hfn => by
      obtain rfl : f = 3 := Option.some.inj ((show Tryd.prog.funcNamed "loop.example/resourcestore/laws.FnTagOf" = some 3 by kernel_rfl).symm.trans hf) |>.symm
      obtain rfl : fn = Tryd.f3 := (Option.some.inj (Tryd.func3.symm.trans hfn)).symm
      exact ⟨by kernel_rfl, fun j t ht => by
        rw [Tryd.params3] at ht
        have h3 : t = 22 := by
          rcases j with _ | j
          · simpa using ht.symm
          · simp at ht
        subst h3
        exact (show Tryd.prog.wantsStandIn 22 = false by kernel_rfl)⟩)
    (by kernel_rfl)
#print axioms proved
end Go.Proofs.YtdgdekfdfcaheaaDoor.fnTagOf
