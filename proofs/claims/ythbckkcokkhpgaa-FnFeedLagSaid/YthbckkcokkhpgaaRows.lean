/-
  No cell of these rows narrows 'for every input' (looked for: loops, veiled, ifaces, maps, wideKeys, modest, calm, conditions, laid).
  DERIVED. THE GIVEN ROWS OF THIS SEAT. 6 by the template 'for every input the law returns true; each argument reads behind the call as it read before'; 0 by the template 'total and deterministic' (their statements: YthbckkcokkhpgaaTotals.lean).
  GIVEN WITH THE SEED: the statements are not yours to turn. If you find one false, say at which input.
  Laid BY PROGRAM, IN A SANDBOX (cutbox-rows.mjs): the forced cells as the released guide's own fill.sh prints them over the translation 6f9585a5ae87bfa5… (all of the seat's roots in one cut). By AI agents, Wed Nov 11 2026. No macro, syntax, notation, axiom, sorry.
-/
import Derived.Test.YthbckkcokkhpgaaChecked
import GoSem.Claim
import GoSem.ClaimJoined
import GoSem.ClaimMapViews
import Derived.JoinedTies
import Derived.KernelRfl
namespace Go.Proofs.Ythbckkcokkhpgaa
/- THE CELL 'sum', in the pinned program and in every row, IS THE sha256 OF THE DUMP (.gsa) THAT YthbckkcokkhpgaaProg.lean LOADS. Nothing in Lean hashes anything: it is a label: what it is worth is what the hold of that sum in a sandbox is worth. -/
noncomputable def Try.pinned : Pinned := { name := "ythbckkcokkhpgaa", sum := "6f9585a5ae87bfa54519ad7726ae2c341e09ce7897873ce1aed112948643ecba", checked := Try.checked }
namespace Rows
def none {H : Type} : Left H := { results := [], args := [] }

/-- 'laws.FnItemHistory': WHATEVER THE INPUT: true; the input reads as it did. -/
def fnItemHistorySpec : ChangeSpec := { name := "fnItemHistory", fn := fun _ => fun
  | [d] => { results := [.lit (.bool true)], args := [d] }
  | _ => none }
def fnItemHistoryRow : OpenClaim := { program := "ythbckkcokkhpgaa", sum := "6f9585a5ae87bfa54519ad7726ae2c341e09ce7897873ce1aed112948643ecba", func := "loop.example/resourcestore/laws.FnItemHistory", spec := "fnItemHistory", inPlace := ["internal/bytealg.abigen_runtime_cmpstring", "slices.overlaps[loop.example/resourcestore/impl.Item]"], unfollowed := true, recurses := true, apart := false }
def FnItemHistorySaid : Prop := fnItemHistoryRow.holds Try.pinned (OpenSpec.ofChange fnItemHistorySpec)

/-- ITS FALSE NEIGHBOUR: 'it returns false'. Refute it at one input. -/
def fnItemHistoryWrong : ChangeSpec := { name := "fnItemHistory", fn := fun _ => fun
  | [d] => { results := [.lit (.bool false)], args := [d] }
  | _ => none }
def FnItemHistoryWrongFalsely : Prop := fnItemHistoryRow.holds Try.pinned (OpenSpec.ofChange fnItemHistoryWrong)

/-- 'laws.FnItemHistoryAll': WHATEVER THE INPUT: true; the input reads as it did. -/
def fnItemHistoryAllSpec : ChangeSpec := { name := "fnItemHistoryAll", fn := fun _ => fun
  | [d] => { results := [.lit (.bool true)], args := [d] }
  | _ => none }
def fnItemHistoryAllRow : OpenClaim := { program := "ythbckkcokkhpgaa", sum := "6f9585a5ae87bfa54519ad7726ae2c341e09ce7897873ce1aed112948643ecba", func := "loop.example/resourcestore/laws.FnItemHistoryAll", spec := "fnItemHistoryAll", inPlace := ["internal/bytealg.abigen_runtime_cmpstring", "slices.overlaps[loop.example/resourcestore/impl.Item]"], unfollowed := true, recurses := true, apart := false }
def FnItemHistoryAllSaid : Prop := fnItemHistoryAllRow.holds Try.pinned (OpenSpec.ofChange fnItemHistoryAllSpec)

/-- ITS FALSE NEIGHBOUR: 'it returns false'. Refute it at one input. -/
def fnItemHistoryAllWrong : ChangeSpec := { name := "fnItemHistoryAll", fn := fun _ => fun
  | [d] => { results := [.lit (.bool false)], args := [d] }
  | _ => none }
def FnItemHistoryAllWrongFalsely : Prop := fnItemHistoryAllRow.holds Try.pinned (OpenSpec.ofChange fnItemHistoryAllWrong)

/-- 'laws.FnStoreAt': WHATEVER THE INPUT: true; the input reads as it did. -/
def fnStoreAtSpec : ChangeSpec := { name := "fnStoreAt", fn := fun _ => fun
  | [d] => { results := [.lit (.bool true)], args := [d] }
  | _ => none }
def fnStoreAtRow : OpenClaim := { program := "ythbckkcokkhpgaa", sum := "6f9585a5ae87bfa54519ad7726ae2c341e09ce7897873ce1aed112948643ecba", func := "loop.example/resourcestore/laws.FnStoreAt", spec := "fnStoreAt", inPlace := ["internal/bytealg.abigen_runtime_cmpstring", "slices.overlaps[loop.example/resourcestore/impl.Item]"], unfollowed := true, recurses := true, apart := false }
def FnStoreAtSaid : Prop := fnStoreAtRow.holds Try.pinned (OpenSpec.ofChange fnStoreAtSpec)

/-- ITS FALSE NEIGHBOUR: 'it returns false'. Refute it at one input. -/
def fnStoreAtWrong : ChangeSpec := { name := "fnStoreAt", fn := fun _ => fun
  | [d] => { results := [.lit (.bool false)], args := [d] }
  | _ => none }
def FnStoreAtWrongFalsely : Prop := fnStoreAtRow.holds Try.pinned (OpenSpec.ofChange fnStoreAtWrong)

/-- 'laws.FnStoreAtNext': WHATEVER THE INPUT: true; the input reads as it did. -/
def fnStoreAtNextSpec : ChangeSpec := { name := "fnStoreAtNext", fn := fun _ => fun
  | [d] => { results := [.lit (.bool true)], args := [d] }
  | _ => none }
def fnStoreAtNextRow : OpenClaim := { program := "ythbckkcokkhpgaa", sum := "6f9585a5ae87bfa54519ad7726ae2c341e09ce7897873ce1aed112948643ecba", func := "loop.example/resourcestore/laws.FnStoreAtNext", spec := "fnStoreAtNext", inPlace := ["internal/bytealg.abigen_runtime_cmpstring", "slices.overlaps[loop.example/resourcestore/impl.Item]"], unfollowed := true, recurses := true, apart := false }
def FnStoreAtNextSaid : Prop := fnStoreAtNextRow.holds Try.pinned (OpenSpec.ofChange fnStoreAtNextSpec)

/-- ITS FALSE NEIGHBOUR: 'it returns false'. Refute it at one input. -/
def fnStoreAtNextWrong : ChangeSpec := { name := "fnStoreAtNext", fn := fun _ => fun
  | [d] => { results := [.lit (.bool false)], args := [d] }
  | _ => none }
def FnStoreAtNextWrongFalsely : Prop := fnStoreAtNextRow.holds Try.pinned (OpenSpec.ofChange fnStoreAtNextWrong)

/-- 'laws.FnFeedLag': WHATEVER THE INPUT: true; the input reads as it did. -/
def fnFeedLagSpec : ChangeSpec := { name := "fnFeedLag", fn := fun _ => fun
  | [d] => { results := [.lit (.bool true)], args := [d] }
  | _ => none }
def fnFeedLagRow : OpenClaim := { program := "ythbckkcokkhpgaa", sum := "6f9585a5ae87bfa54519ad7726ae2c341e09ce7897873ce1aed112948643ecba", func := "loop.example/resourcestore/laws.FnFeedLag", spec := "fnFeedLag", inPlace := ["internal/bytealg.abigen_runtime_cmpstring", "slices.overlaps[loop.example/resourcestore/impl.Item]"], unfollowed := true, recurses := true, apart := false }
def FnFeedLagSaid : Prop := fnFeedLagRow.holds Try.pinned (OpenSpec.ofChange fnFeedLagSpec)

/-- ITS FALSE NEIGHBOUR: 'it returns false'. Refute it at one input. -/
def fnFeedLagWrong : ChangeSpec := { name := "fnFeedLag", fn := fun _ => fun
  | [d] => { results := [.lit (.bool false)], args := [d] }
  | _ => none }
def FnFeedLagWrongFalsely : Prop := fnFeedLagRow.holds Try.pinned (OpenSpec.ofChange fnFeedLagWrong)

/-- 'laws.FnFeedLagNext': WHATEVER THE INPUT: true; the input reads as it did. -/
def fnFeedLagNextSpec : ChangeSpec := { name := "fnFeedLagNext", fn := fun _ => fun
  | [d] => { results := [.lit (.bool true)], args := [d] }
  | _ => none }
def fnFeedLagNextRow : OpenClaim := { program := "ythbckkcokkhpgaa", sum := "6f9585a5ae87bfa54519ad7726ae2c341e09ce7897873ce1aed112948643ecba", func := "loop.example/resourcestore/laws.FnFeedLagNext", spec := "fnFeedLagNext", inPlace := ["internal/bytealg.abigen_runtime_cmpstring", "slices.overlaps[loop.example/resourcestore/impl.Item]"], unfollowed := true, recurses := true, apart := false }
def FnFeedLagNextSaid : Prop := fnFeedLagNextRow.holds Try.pinned (OpenSpec.ofChange fnFeedLagNextSpec)

/-- ITS FALSE NEIGHBOUR: 'it returns false'. Refute it at one input. -/
def fnFeedLagNextWrong : ChangeSpec := { name := "fnFeedLagNext", fn := fun _ => fun
  | [d] => { results := [.lit (.bool false)], args := [d] }
  | _ => none }
def FnFeedLagNextWrongFalsely : Prop := fnFeedLagNextRow.holds Try.pinned (OpenSpec.ofChange fnFeedLagNextWrong)

/- THE SECOND FORM. 'bulk': how many values and letters a reading holds, each counted each time it is reached (what is shared counts as often as it is met; a slice's spare places count too). A statement '..UptoSaid' is the law's where the arguments, and the package variables that the reading takes, are together of bulk at most 1048576: NARROWER than '..Said'. Prove '..Said' where nothing that the law and all that it calls make is longer than what came in: it says more and counts as full. Else prove '..UptoSaid'. A law counts once. -/
mutual
def uptoBulk {H : Type} : DataW H → Nat
  | .lit (.string bytes) => bytes.length + 1
  | .lit _ => 1
  | .nil => 1
  | .ptr d => uptoBulk d + 1
  | .slice elems spare => uptoBulkAll elems + uptoBulkAll spare + 1
  | .agg parts => uptoBulkAll parts + 1
  | .iface _ d => uptoBulk d + 1
  | .map entries => uptoBulkEntries entries + 1
  | .held _ => 1
def uptoBulkAll {H : Type} : List (DataW H) → Nat
  | [] => 0
  | d :: r => uptoBulk d + uptoBulkAll r
def uptoBulkEntries {H : Type} : List (Lit × DataW H) → Nat
  | [] => 0
  | x :: r => uptoBulkEntry x + uptoBulkEntries r
def uptoBulkEntry {H : Type} : Lit × DataW H → Nat
  | (.string bytes, d) => bytes.length + uptoBulk d + 1
  | (_, d) => uptoBulk d + 1
 end
def uptoSmall : (H : Type) → List (DataW H) → Bool := fun _ ds => decide (uptoBulkAll ds ≤ 1048576)
def OpenSpec.upto (s : _root_.Go.ChangeSpec) : _root_.Go.OpenSpec := { _root_.Go.OpenSpec.ofChange s with cond := some uptoSmall }

/-- 'laws.FnItemHistory', WHERE WHAT IT READS IS OF BULK AT MOST 1048576: true; the input reads as it did. -/
def fnItemHistoryUptoRow : OpenClaim := { program := "ythbckkcokkhpgaa", sum := "6f9585a5ae87bfa54519ad7726ae2c341e09ce7897873ce1aed112948643ecba", func := "loop.example/resourcestore/laws.FnItemHistory", spec := "fnItemHistory", inPlace := ["internal/bytealg.abigen_runtime_cmpstring", "slices.overlaps[loop.example/resourcestore/impl.Item]"], unfollowed := true, recurses := true, apart := false, narrowed := true }
def FnItemHistoryUptoSaid : Prop := fnItemHistoryUptoRow.holds Try.pinned (OpenSpec.upto fnItemHistorySpec)

/-- 'laws.FnItemHistoryAll', WHERE WHAT IT READS IS OF BULK AT MOST 1048576: true; the input reads as it did. -/
def fnItemHistoryAllUptoRow : OpenClaim := { program := "ythbckkcokkhpgaa", sum := "6f9585a5ae87bfa54519ad7726ae2c341e09ce7897873ce1aed112948643ecba", func := "loop.example/resourcestore/laws.FnItemHistoryAll", spec := "fnItemHistoryAll", inPlace := ["internal/bytealg.abigen_runtime_cmpstring", "slices.overlaps[loop.example/resourcestore/impl.Item]"], unfollowed := true, recurses := true, apart := false, narrowed := true }
def FnItemHistoryAllUptoSaid : Prop := fnItemHistoryAllUptoRow.holds Try.pinned (OpenSpec.upto fnItemHistoryAllSpec)

/-- 'laws.FnStoreAt', WHERE WHAT IT READS IS OF BULK AT MOST 1048576: true; the input reads as it did. -/
def fnStoreAtUptoRow : OpenClaim := { program := "ythbckkcokkhpgaa", sum := "6f9585a5ae87bfa54519ad7726ae2c341e09ce7897873ce1aed112948643ecba", func := "loop.example/resourcestore/laws.FnStoreAt", spec := "fnStoreAt", inPlace := ["internal/bytealg.abigen_runtime_cmpstring", "slices.overlaps[loop.example/resourcestore/impl.Item]"], unfollowed := true, recurses := true, apart := false, narrowed := true }
def FnStoreAtUptoSaid : Prop := fnStoreAtUptoRow.holds Try.pinned (OpenSpec.upto fnStoreAtSpec)

/-- 'laws.FnStoreAtNext', WHERE WHAT IT READS IS OF BULK AT MOST 1048576: true; the input reads as it did. -/
def fnStoreAtNextUptoRow : OpenClaim := { program := "ythbckkcokkhpgaa", sum := "6f9585a5ae87bfa54519ad7726ae2c341e09ce7897873ce1aed112948643ecba", func := "loop.example/resourcestore/laws.FnStoreAtNext", spec := "fnStoreAtNext", inPlace := ["internal/bytealg.abigen_runtime_cmpstring", "slices.overlaps[loop.example/resourcestore/impl.Item]"], unfollowed := true, recurses := true, apart := false, narrowed := true }
def FnStoreAtNextUptoSaid : Prop := fnStoreAtNextUptoRow.holds Try.pinned (OpenSpec.upto fnStoreAtNextSpec)

/-- 'laws.FnFeedLag', WHERE WHAT IT READS IS OF BULK AT MOST 1048576: true; the input reads as it did. -/
def fnFeedLagUptoRow : OpenClaim := { program := "ythbckkcokkhpgaa", sum := "6f9585a5ae87bfa54519ad7726ae2c341e09ce7897873ce1aed112948643ecba", func := "loop.example/resourcestore/laws.FnFeedLag", spec := "fnFeedLag", inPlace := ["internal/bytealg.abigen_runtime_cmpstring", "slices.overlaps[loop.example/resourcestore/impl.Item]"], unfollowed := true, recurses := true, apart := false, narrowed := true }
def FnFeedLagUptoSaid : Prop := fnFeedLagUptoRow.holds Try.pinned (OpenSpec.upto fnFeedLagSpec)

/-- 'laws.FnFeedLagNext', WHERE WHAT IT READS IS OF BULK AT MOST 1048576: true; the input reads as it did. -/
def fnFeedLagNextUptoRow : OpenClaim := { program := "ythbckkcokkhpgaa", sum := "6f9585a5ae87bfa54519ad7726ae2c341e09ce7897873ce1aed112948643ecba", func := "loop.example/resourcestore/laws.FnFeedLagNext", spec := "fnFeedLagNext", inPlace := ["internal/bytealg.abigen_runtime_cmpstring", "slices.overlaps[loop.example/resourcestore/impl.Item]"], unfollowed := true, recurses := true, apart := false, narrowed := true }
def FnFeedLagNextUptoSaid : Prop := fnFeedLagNextUptoRow.holds Try.pinned (OpenSpec.upto fnFeedLagNextSpec)

end Rows
end Go.Proofs.Ythbckkcokkhpgaa
