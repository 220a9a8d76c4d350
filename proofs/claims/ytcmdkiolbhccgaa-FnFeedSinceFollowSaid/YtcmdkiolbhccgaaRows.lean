/-
  No cell of these rows narrows 'for every input' (looked for: loops, veiled, ifaces, maps, wideKeys, modest, calm, conditions, laid).
  DERIVED. THE GIVEN ROWS OF THIS SEAT. 3 by the template 'for every input the law returns true; each argument reads behind the call as it read before'; 0 by the template 'total and deterministic' (their statements: YtcmdkiolbhccgaaTotals.lean).
  GIVEN WITH THE SEED: the statements are not yours to turn. If you find one false, say at which input.
  Laid BY PROGRAM, IN A SANDBOX (cutbox-rows.mjs): the forced cells as the released guide's own fill.sh prints them over the translation f2cfdf949f06abdd… (all of the seat's roots in one cut). By AI agents, Wed Nov 11 2026. No macro, syntax, notation, axiom, sorry.
-/
import Derived.Test.YtcmdkiolbhccgaaChecked
import GoSem.Claim
import GoSem.ClaimJoined
import GoSem.ClaimMapViews
import Derived.JoinedTies
import Derived.KernelRfl
namespace Go.Proofs.Ytcmdkiolbhccgaa
/- THE CELL 'sum', in the pinned program and in every row, IS THE sha256 OF THE DUMP (.gsa) THAT YtcmdkiolbhccgaaProg.lean LOADS. Nothing in Lean hashes anything: it is a label: what it is worth is what the hold of that sum in a sandbox is worth. -/
noncomputable def Try.pinned : Pinned := { name := "ytcmdkiolbhccgaa", sum := "f2cfdf949f06abdda87da69980f33f0017d60a0da70756af9aee52572c061b9d", checked := Try.checked }
namespace Rows
def none {H : Type} : Left H := { results := [], args := [] }

/-- 'laws.FnFeedSince': WHATEVER THE INPUT: true; the input reads as it did. -/
def fnFeedSinceSpec : ChangeSpec := { name := "fnFeedSince", fn := fun _ => fun
  | [d] => { results := [.lit (.bool true)], args := [d] }
  | _ => none }
def fnFeedSinceRow : OpenClaim := { program := "ytcmdkiolbhccgaa", sum := "f2cfdf949f06abdda87da69980f33f0017d60a0da70756af9aee52572c061b9d", func := "loop.example/resourcestore/laws.FnFeedSince", spec := "fnFeedSince", inPlace := ["internal/bytealg.abigen_runtime_cmpstring", "slices.overlaps[loop.example/resourcestore/impl.Item]"], unfollowed := true, recurses := true, apart := false }
def FnFeedSinceSaid : Prop := fnFeedSinceRow.holds Try.pinned (OpenSpec.ofChange fnFeedSinceSpec)

/-- ITS FALSE NEIGHBOUR: 'it returns false'. Refute it at one input. -/
def fnFeedSinceWrong : ChangeSpec := { name := "fnFeedSince", fn := fun _ => fun
  | [d] => { results := [.lit (.bool false)], args := [d] }
  | _ => none }
def FnFeedSinceWrongFalsely : Prop := fnFeedSinceRow.holds Try.pinned (OpenSpec.ofChange fnFeedSinceWrong)

/-- 'laws.FnFeedSinceLater': WHATEVER THE INPUT: true; the input reads as it did. -/
def fnFeedSinceLaterSpec : ChangeSpec := { name := "fnFeedSinceLater", fn := fun _ => fun
  | [d] => { results := [.lit (.bool true)], args := [d] }
  | _ => none }
def fnFeedSinceLaterRow : OpenClaim := { program := "ytcmdkiolbhccgaa", sum := "f2cfdf949f06abdda87da69980f33f0017d60a0da70756af9aee52572c061b9d", func := "loop.example/resourcestore/laws.FnFeedSinceLater", spec := "fnFeedSinceLater", inPlace := ["internal/bytealg.abigen_runtime_cmpstring", "slices.overlaps[loop.example/resourcestore/impl.Item]"], unfollowed := true, recurses := true, apart := false }
def FnFeedSinceLaterSaid : Prop := fnFeedSinceLaterRow.holds Try.pinned (OpenSpec.ofChange fnFeedSinceLaterSpec)

/-- ITS FALSE NEIGHBOUR: 'it returns false'. Refute it at one input. -/
def fnFeedSinceLaterWrong : ChangeSpec := { name := "fnFeedSinceLater", fn := fun _ => fun
  | [d] => { results := [.lit (.bool false)], args := [d] }
  | _ => none }
def FnFeedSinceLaterWrongFalsely : Prop := fnFeedSinceLaterRow.holds Try.pinned (OpenSpec.ofChange fnFeedSinceLaterWrong)

/-- 'laws.FnFeedSinceFollow': WHATEVER THE INPUT: true; the input reads as it did. -/
def fnFeedSinceFollowSpec : ChangeSpec := { name := "fnFeedSinceFollow", fn := fun _ => fun
  | [d] => { results := [.lit (.bool true)], args := [d] }
  | _ => none }
def fnFeedSinceFollowRow : OpenClaim := { program := "ytcmdkiolbhccgaa", sum := "f2cfdf949f06abdda87da69980f33f0017d60a0da70756af9aee52572c061b9d", func := "loop.example/resourcestore/laws.FnFeedSinceFollow", spec := "fnFeedSinceFollow", inPlace := ["internal/bytealg.abigen_runtime_cmpstring", "slices.overlaps[loop.example/resourcestore/impl.Item]"], unfollowed := true, recurses := true, apart := false }
def FnFeedSinceFollowSaid : Prop := fnFeedSinceFollowRow.holds Try.pinned (OpenSpec.ofChange fnFeedSinceFollowSpec)

/-- ITS FALSE NEIGHBOUR: 'it returns false'. Refute it at one input. -/
def fnFeedSinceFollowWrong : ChangeSpec := { name := "fnFeedSinceFollow", fn := fun _ => fun
  | [d] => { results := [.lit (.bool false)], args := [d] }
  | _ => none }
def FnFeedSinceFollowWrongFalsely : Prop := fnFeedSinceFollowRow.holds Try.pinned (OpenSpec.ofChange fnFeedSinceFollowWrong)

/- THE SECOND FORM. 'bulk': how many values and letters a reading holds, each counted each time it is reached (what is shared counts as often as it is met; a slice's spare places count too). A statement '..UptoSaid' is the law's where the arguments, and the package variables that the reading takes, are together of bulk at most 1048576: NARROWER than '..Said'. Prove '..Said' where nothing that the law and all that it calls make is longer than what came in: it says more and counts as full. Else prove '..UptoSaid'. A law counts once. -/
mutual
def uptoBulk {H : Type} : DataW H → Nat
  | .lit (.string bytes) => bytes.length + 1
  | .lit _ => 1
  | .nil => 1
  | .ptr d => uptoBulk d + 1
  | .slice elems spare => uptoBulkAll elems + uptoBulkAll spare + 1
  | .agg parts => uptoBulkAll parts + 1
  | .iface _ d => uptoBulk d + 1
  | .map entries => uptoBulkEntries entries + 1
  | .held _ => 1
def uptoBulkAll {H : Type} : List (DataW H) → Nat
  | [] => 0
  | d :: r => uptoBulk d + uptoBulkAll r
def uptoBulkEntries {H : Type} : List (Lit × DataW H) → Nat
  | [] => 0
  | x :: r => uptoBulkEntry x + uptoBulkEntries r
def uptoBulkEntry {H : Type} : Lit × DataW H → Nat
  | (.string bytes, d) => bytes.length + uptoBulk d + 1
  | (_, d) => uptoBulk d + 1
 end
def uptoSmall : (H : Type) → List (DataW H) → Bool := fun _ ds => decide (uptoBulkAll ds ≤ 1048576)
def OpenSpec.upto (s : _root_.Go.ChangeSpec) : _root_.Go.OpenSpec := { _root_.Go.OpenSpec.ofChange s with cond := some uptoSmall }

/-- 'laws.FnFeedSince', WHERE WHAT IT READS IS OF BULK AT MOST 1048576: true; the input reads as it did. -/
def fnFeedSinceUptoRow : OpenClaim := { program := "ytcmdkiolbhccgaa", sum := "f2cfdf949f06abdda87da69980f33f0017d60a0da70756af9aee52572c061b9d", func := "loop.example/resourcestore/laws.FnFeedSince", spec := "fnFeedSince", inPlace := ["internal/bytealg.abigen_runtime_cmpstring", "slices.overlaps[loop.example/resourcestore/impl.Item]"], unfollowed := true, recurses := true, apart := false, narrowed := true }
def FnFeedSinceUptoSaid : Prop := fnFeedSinceUptoRow.holds Try.pinned (OpenSpec.upto fnFeedSinceSpec)

/-- 'laws.FnFeedSinceLater', WHERE WHAT IT READS IS OF BULK AT MOST 1048576: true; the input reads as it did. -/
def fnFeedSinceLaterUptoRow : OpenClaim := { program := "ytcmdkiolbhccgaa", sum := "f2cfdf949f06abdda87da69980f33f0017d60a0da70756af9aee52572c061b9d", func := "loop.example/resourcestore/laws.FnFeedSinceLater", spec := "fnFeedSinceLater", inPlace := ["internal/bytealg.abigen_runtime_cmpstring", "slices.overlaps[loop.example/resourcestore/impl.Item]"], unfollowed := true, recurses := true, apart := false, narrowed := true }
def FnFeedSinceLaterUptoSaid : Prop := fnFeedSinceLaterUptoRow.holds Try.pinned (OpenSpec.upto fnFeedSinceLaterSpec)

/-- 'laws.FnFeedSinceFollow', WHERE WHAT IT READS IS OF BULK AT MOST 1048576: true; the input reads as it did. -/
def fnFeedSinceFollowUptoRow : OpenClaim := { program := "ytcmdkiolbhccgaa", sum := "f2cfdf949f06abdda87da69980f33f0017d60a0da70756af9aee52572c061b9d", func := "loop.example/resourcestore/laws.FnFeedSinceFollow", spec := "fnFeedSinceFollow", inPlace := ["internal/bytealg.abigen_runtime_cmpstring", "slices.overlaps[loop.example/resourcestore/impl.Item]"], unfollowed := true, recurses := true, apart := false, narrowed := true }
def FnFeedSinceFollowUptoSaid : Prop := fnFeedSinceFollowUptoRow.holds Try.pinned (OpenSpec.upto fnFeedSinceFollowSpec)

end Rows
end Go.Proofs.Ytcmdkiolbhccgaa
