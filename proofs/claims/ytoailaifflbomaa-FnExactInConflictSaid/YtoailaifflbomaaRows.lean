/-
  NARROWER THAN 'FOR EVERY INPUT', by the rows' own cells (each row's printed sentence says how): FnExactItemHistory: loops · FnExactReplayLog: loops · FnExactStoreAt: loops · FnExactApplyChange: loops · FnExactMergeThree: loops · FnExactInConflict: loops.
  DERIVED. THE GIVEN ROWS OF THIS SEAT. 6 by the template 'for every input the law returns true; each argument reads behind the call as it read before'; 0 by the template 'total and deterministic' (their statements: YtoailaifflbomaaTotals.lean).
  GIVEN WITH THE SEED: the statements are not yours to turn. If you find one false, say at which input.
  Laid BY PROGRAM, IN A SANDBOX (cutbox-rows.mjs): the forced cells as the released guide's own fill.sh prints them over the translation 63ba7db7ff5f6c0a… (all of the seat's roots in one cut). By AI agents, Wed Nov 11 2026. No macro, syntax, notation, axiom, sorry.
-/
import Derived.Test.YtoailaifflbomaaChecked
import GoSem.Claim
import GoSem.ClaimJoined
import GoSem.ClaimMapViews
import Derived.JoinedTies
import Derived.KernelRfl
namespace Go.Proofs.Ytoailaifflbomaa
/- THE CELL 'sum', in the pinned program and in every row, IS THE sha256 OF THE DUMP (.gsa) THAT YtoailaifflbomaaProg.lean LOADS. Nothing in Lean hashes anything: it is a label: what it is worth is what the hold of that sum in a sandbox is worth. -/
noncomputable def Try.pinned : Pinned := { name := "ytoailaifflbomaa", sum := "63ba7db7ff5f6c0aff932f4a62ab607a4f0e8b05eb9728860f07c2314725af24", checked := Try.checked }
namespace Rows
def none {H : Type} : Left H := { results := [], args := [] }

/-- 'laws.FnExactItemHistory': WHATEVER THE INPUT: true; the input reads as it did. -/
def fnExactItemHistorySpec : ChangeSpec := { name := "fnExactItemHistory", fn := fun _ => fun
  | [d1, d2] => { results := [.lit (.bool true)], args := [d1, d2] }
  | _ => none }
def fnExactItemHistoryRow : OpenClaim := { program := "ytoailaifflbomaa", sum := "63ba7db7ff5f6c0aff932f4a62ab607a4f0e8b05eb9728860f07c2314725af24", func := "loop.example/resourcestore/laws.FnExactItemHistory", spec := "fnExactItemHistory", inPlace := ["internal/bytealg.abigen_runtime_cmpstring", "slices.overlaps[loop.example/resourcestore/impl.Item]"], unfollowed := true, recurses := true, loops := true, apart := false }
def FnExactItemHistorySaid : Prop := fnExactItemHistoryRow.holds Try.pinned (OpenSpec.ofChange fnExactItemHistorySpec)

/-- ITS FALSE NEIGHBOUR: 'it returns false'. Refute it at one input. -/
def fnExactItemHistoryWrong : ChangeSpec := { name := "fnExactItemHistory", fn := fun _ => fun
  | [d1, d2] => { results := [.lit (.bool false)], args := [d1, d2] }
  | _ => none }
def FnExactItemHistoryWrongFalsely : Prop := fnExactItemHistoryRow.holds Try.pinned (OpenSpec.ofChange fnExactItemHistoryWrong)

/-- 'laws.FnExactReplayLog': WHATEVER THE INPUT: true; the input reads as it did. -/
def fnExactReplayLogSpec : ChangeSpec := { name := "fnExactReplayLog", fn := fun _ => fun
  | [d] => { results := [.lit (.bool true)], args := [d] }
  | _ => none }
def fnExactReplayLogRow : OpenClaim := { program := "ytoailaifflbomaa", sum := "63ba7db7ff5f6c0aff932f4a62ab607a4f0e8b05eb9728860f07c2314725af24", func := "loop.example/resourcestore/laws.FnExactReplayLog", spec := "fnExactReplayLog", inPlace := ["internal/bytealg.abigen_runtime_cmpstring", "slices.overlaps[loop.example/resourcestore/impl.Item]"], unfollowed := true, recurses := true, loops := true, apart := false }
def FnExactReplayLogSaid : Prop := fnExactReplayLogRow.holds Try.pinned (OpenSpec.ofChange fnExactReplayLogSpec)

/-- ITS FALSE NEIGHBOUR: 'it returns false'. Refute it at one input. -/
def fnExactReplayLogWrong : ChangeSpec := { name := "fnExactReplayLog", fn := fun _ => fun
  | [d] => { results := [.lit (.bool false)], args := [d] }
  | _ => none }
def FnExactReplayLogWrongFalsely : Prop := fnExactReplayLogRow.holds Try.pinned (OpenSpec.ofChange fnExactReplayLogWrong)

/-- 'laws.FnExactStoreAt': WHATEVER THE INPUT: true; the input reads as it did. -/
def fnExactStoreAtSpec : ChangeSpec := { name := "fnExactStoreAt", fn := fun _ => fun
  | [d1, d2] => { results := [.lit (.bool true)], args := [d1, d2] }
  | _ => none }
def fnExactStoreAtRow : OpenClaim := { program := "ytoailaifflbomaa", sum := "63ba7db7ff5f6c0aff932f4a62ab607a4f0e8b05eb9728860f07c2314725af24", func := "loop.example/resourcestore/laws.FnExactStoreAt", spec := "fnExactStoreAt", inPlace := ["internal/bytealg.abigen_runtime_cmpstring", "slices.overlaps[loop.example/resourcestore/impl.Item]"], unfollowed := true, recurses := true, loops := true, apart := false }
def FnExactStoreAtSaid : Prop := fnExactStoreAtRow.holds Try.pinned (OpenSpec.ofChange fnExactStoreAtSpec)

/-- ITS FALSE NEIGHBOUR: 'it returns false'. Refute it at one input. -/
def fnExactStoreAtWrong : ChangeSpec := { name := "fnExactStoreAt", fn := fun _ => fun
  | [d1, d2] => { results := [.lit (.bool false)], args := [d1, d2] }
  | _ => none }
def FnExactStoreAtWrongFalsely : Prop := fnExactStoreAtRow.holds Try.pinned (OpenSpec.ofChange fnExactStoreAtWrong)

/-- 'laws.FnExactApplyChange': WHATEVER THE INPUT: true; the input reads as it did. -/
def fnExactApplyChangeSpec : ChangeSpec := { name := "fnExactApplyChange", fn := fun _ => fun
  | [d1, d2] => { results := [.lit (.bool true)], args := [d1, d2] }
  | _ => none }
def fnExactApplyChangeRow : OpenClaim := { program := "ytoailaifflbomaa", sum := "63ba7db7ff5f6c0aff932f4a62ab607a4f0e8b05eb9728860f07c2314725af24", func := "loop.example/resourcestore/laws.FnExactApplyChange", spec := "fnExactApplyChange", inPlace := ["internal/bytealg.abigen_runtime_cmpstring", "slices.overlaps[loop.example/resourcestore/impl.Item]"], unfollowed := true, recurses := true, loops := true, apart := false }
def FnExactApplyChangeSaid : Prop := fnExactApplyChangeRow.holds Try.pinned (OpenSpec.ofChange fnExactApplyChangeSpec)

/-- ITS FALSE NEIGHBOUR: 'it returns false'. Refute it at one input. -/
def fnExactApplyChangeWrong : ChangeSpec := { name := "fnExactApplyChange", fn := fun _ => fun
  | [d1, d2] => { results := [.lit (.bool false)], args := [d1, d2] }
  | _ => none }
def FnExactApplyChangeWrongFalsely : Prop := fnExactApplyChangeRow.holds Try.pinned (OpenSpec.ofChange fnExactApplyChangeWrong)

/-- 'laws.FnExactMergeThree': WHATEVER THE INPUT: true; the input reads as it did. -/
def fnExactMergeThreeSpec : ChangeSpec := { name := "fnExactMergeThree", fn := fun _ => fun
  | [d1, d2, d3] => { results := [.lit (.bool true)], args := [d1, d2, d3] }
  | _ => none }
def fnExactMergeThreeRow : OpenClaim := { program := "ytoailaifflbomaa", sum := "63ba7db7ff5f6c0aff932f4a62ab607a4f0e8b05eb9728860f07c2314725af24", func := "loop.example/resourcestore/laws.FnExactMergeThree", spec := "fnExactMergeThree", inPlace := ["internal/bytealg.abigen_runtime_cmpstring", "slices.overlaps[string]", "slices.overlaps[loop.example/resourcestore/impl.Node]"], recurses := true, loops := true, apart := false }
def FnExactMergeThreeSaid : Prop := fnExactMergeThreeRow.holds Try.pinned (OpenSpec.ofChange fnExactMergeThreeSpec)

/-- ITS FALSE NEIGHBOUR: 'it returns false'. Refute it at one input. -/
def fnExactMergeThreeWrong : ChangeSpec := { name := "fnExactMergeThree", fn := fun _ => fun
  | [d1, d2, d3] => { results := [.lit (.bool false)], args := [d1, d2, d3] }
  | _ => none }
def FnExactMergeThreeWrongFalsely : Prop := fnExactMergeThreeRow.holds Try.pinned (OpenSpec.ofChange fnExactMergeThreeWrong)

/-- 'laws.FnExactInConflict': WHATEVER THE INPUT: true; the input reads as it did. -/
def fnExactInConflictSpec : ChangeSpec := { name := "fnExactInConflict", fn := fun _ => fun
  | [d1, d2, d3] => { results := [.lit (.bool true)], args := [d1, d2, d3] }
  | _ => none }
def fnExactInConflictRow : OpenClaim := { program := "ytoailaifflbomaa", sum := "63ba7db7ff5f6c0aff932f4a62ab607a4f0e8b05eb9728860f07c2314725af24", func := "loop.example/resourcestore/laws.FnExactInConflict", spec := "fnExactInConflict", inPlace := ["internal/bytealg.abigen_runtime_cmpstring", "slices.overlaps[string]", "slices.overlaps[loop.example/resourcestore/impl.Node]"], recurses := true, loops := true, apart := false }
def FnExactInConflictSaid : Prop := fnExactInConflictRow.holds Try.pinned (OpenSpec.ofChange fnExactInConflictSpec)

/-- ITS FALSE NEIGHBOUR: 'it returns false'. Refute it at one input. -/
def fnExactInConflictWrong : ChangeSpec := { name := "fnExactInConflict", fn := fun _ => fun
  | [d1, d2, d3] => { results := [.lit (.bool false)], args := [d1, d2, d3] }
  | _ => none }
def FnExactInConflictWrongFalsely : Prop := fnExactInConflictRow.holds Try.pinned (OpenSpec.ofChange fnExactInConflictWrong)

/- THE SECOND FORM. 'bulk': how many values and letters a reading holds, each counted each time it is reached (what is shared counts as often as it is met; a slice's spare places count too). A statement '..UptoSaid' is the law's where the arguments, and the package variables that the reading takes, are together of bulk at most 1048576: NARROWER than '..Said'. Prove '..Said' where nothing that the law and all that it calls make is longer than what came in: it says more and counts as full. Else prove '..UptoSaid'. A law counts once. -/
mutual
def uptoBulk {H : Type} : DataW H → Nat
  | .lit (.string bytes) => bytes.length + 1
  | .lit _ => 1
  | .nil => 1
  | .ptr d => uptoBulk d + 1
  | .slice elems spare => uptoBulkAll elems + uptoBulkAll spare + 1
  | .agg parts => uptoBulkAll parts + 1
  | .iface _ d => uptoBulk d + 1
  | .map entries => uptoBulkEntries entries + 1
  | .held _ => 1
def uptoBulkAll {H : Type} : List (DataW H) → Nat
  | [] => 0
  | d :: r => uptoBulk d + uptoBulkAll r
def uptoBulkEntries {H : Type} : List (Lit × DataW H) → Nat
  | [] => 0
  | x :: r => uptoBulkEntry x + uptoBulkEntries r
def uptoBulkEntry {H : Type} : Lit × DataW H → Nat
  | (.string bytes, d) => bytes.length + uptoBulk d + 1
  | (_, d) => uptoBulk d + 1
 end
def uptoSmall : (H : Type) → List (DataW H) → Bool := fun _ ds => decide (uptoBulkAll ds ≤ 1048576)
def OpenSpec.upto (s : _root_.Go.ChangeSpec) : _root_.Go.OpenSpec := { _root_.Go.OpenSpec.ofChange s with cond := some uptoSmall }

/-- 'laws.FnExactItemHistory', WHERE WHAT IT READS IS OF BULK AT MOST 1048576: true; the input reads as it did. -/
def fnExactItemHistoryUptoRow : OpenClaim := { program := "ytoailaifflbomaa", sum := "63ba7db7ff5f6c0aff932f4a62ab607a4f0e8b05eb9728860f07c2314725af24", func := "loop.example/resourcestore/laws.FnExactItemHistory", spec := "fnExactItemHistory", inPlace := ["internal/bytealg.abigen_runtime_cmpstring", "slices.overlaps[loop.example/resourcestore/impl.Item]"], unfollowed := true, recurses := true, loops := true, apart := false, narrowed := true }
def FnExactItemHistoryUptoSaid : Prop := fnExactItemHistoryUptoRow.holds Try.pinned (OpenSpec.upto fnExactItemHistorySpec)

/-- 'laws.FnExactReplayLog', WHERE WHAT IT READS IS OF BULK AT MOST 1048576: true; the input reads as it did. -/
def fnExactReplayLogUptoRow : OpenClaim := { program := "ytoailaifflbomaa", sum := "63ba7db7ff5f6c0aff932f4a62ab607a4f0e8b05eb9728860f07c2314725af24", func := "loop.example/resourcestore/laws.FnExactReplayLog", spec := "fnExactReplayLog", inPlace := ["internal/bytealg.abigen_runtime_cmpstring", "slices.overlaps[loop.example/resourcestore/impl.Item]"], unfollowed := true, recurses := true, loops := true, apart := false, narrowed := true }
def FnExactReplayLogUptoSaid : Prop := fnExactReplayLogUptoRow.holds Try.pinned (OpenSpec.upto fnExactReplayLogSpec)

/-- 'laws.FnExactStoreAt', WHERE WHAT IT READS IS OF BULK AT MOST 1048576: true; the input reads as it did. -/
def fnExactStoreAtUptoRow : OpenClaim := { program := "ytoailaifflbomaa", sum := "63ba7db7ff5f6c0aff932f4a62ab607a4f0e8b05eb9728860f07c2314725af24", func := "loop.example/resourcestore/laws.FnExactStoreAt", spec := "fnExactStoreAt", inPlace := ["internal/bytealg.abigen_runtime_cmpstring", "slices.overlaps[loop.example/resourcestore/impl.Item]"], unfollowed := true, recurses := true, loops := true, apart := false, narrowed := true }
def FnExactStoreAtUptoSaid : Prop := fnExactStoreAtUptoRow.holds Try.pinned (OpenSpec.upto fnExactStoreAtSpec)

/-- 'laws.FnExactApplyChange', WHERE WHAT IT READS IS OF BULK AT MOST 1048576: true; the input reads as it did. -/
def fnExactApplyChangeUptoRow : OpenClaim := { program := "ytoailaifflbomaa", sum := "63ba7db7ff5f6c0aff932f4a62ab607a4f0e8b05eb9728860f07c2314725af24", func := "loop.example/resourcestore/laws.FnExactApplyChange", spec := "fnExactApplyChange", inPlace := ["internal/bytealg.abigen_runtime_cmpstring", "slices.overlaps[loop.example/resourcestore/impl.Item]"], unfollowed := true, recurses := true, loops := true, apart := false, narrowed := true }
def FnExactApplyChangeUptoSaid : Prop := fnExactApplyChangeUptoRow.holds Try.pinned (OpenSpec.upto fnExactApplyChangeSpec)

/-- 'laws.FnExactMergeThree', WHERE WHAT IT READS IS OF BULK AT MOST 1048576: true; the input reads as it did. -/
def fnExactMergeThreeUptoRow : OpenClaim := { program := "ytoailaifflbomaa", sum := "63ba7db7ff5f6c0aff932f4a62ab607a4f0e8b05eb9728860f07c2314725af24", func := "loop.example/resourcestore/laws.FnExactMergeThree", spec := "fnExactMergeThree", inPlace := ["internal/bytealg.abigen_runtime_cmpstring", "slices.overlaps[string]", "slices.overlaps[loop.example/resourcestore/impl.Node]"], recurses := true, loops := true, apart := false, narrowed := true }
def FnExactMergeThreeUptoSaid : Prop := fnExactMergeThreeUptoRow.holds Try.pinned (OpenSpec.upto fnExactMergeThreeSpec)

/-- 'laws.FnExactInConflict', WHERE WHAT IT READS IS OF BULK AT MOST 1048576: true; the input reads as it did. -/
def fnExactInConflictUptoRow : OpenClaim := { program := "ytoailaifflbomaa", sum := "63ba7db7ff5f6c0aff932f4a62ab607a4f0e8b05eb9728860f07c2314725af24", func := "loop.example/resourcestore/laws.FnExactInConflict", spec := "fnExactInConflict", inPlace := ["internal/bytealg.abigen_runtime_cmpstring", "slices.overlaps[string]", "slices.overlaps[loop.example/resourcestore/impl.Node]"], recurses := true, loops := true, apart := false, narrowed := true }
def FnExactInConflictUptoSaid : Prop := fnExactInConflictUptoRow.holds Try.pinned (OpenSpec.upto fnExactInConflictSpec)

end Rows
end Go.Proofs.Ytoailaifflbomaa
