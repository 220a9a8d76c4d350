/-
  NARROWER THAN 'FOR EVERY INPUT', by the rows' own cells (each row's printed sentence says how): FnRemoveNodeWhole: laid · FnRemoveNode: laid · FnAddNode: laid · FnAddNodeCount: laid · FnAddNodeRemove: laid · FnAddNodeEnd: laid · FnMergeForNames: laid.
  DERIVED. THE GIVEN ROWS OF THIS SEAT. 7 by the template 'for every input the law returns true; each argument reads behind the call as it read before'; 0 by the template 'total and deterministic' (their statements: YtgmilpefnaadmaaDoorTotals.lean).
  GIVEN WITH THE SEED: the statements are not yours to turn. If you find one false, say at which input.
  Laid BY PROGRAM, IN A SANDBOX (cutbox-rows.mjs): the forced cells as the released guide's own fill.sh prints them over the translation 8c0615c76b657057… (all of the seat's roots in one cut). By AI agents, Wed Nov 11 2026. No macro, syntax, notation, axiom, sorry.
-/
import Derived.Test.YtgmilpefnaadmaaDoorChecked
import GoSem.Claim
import GoSem.ClaimJoined
import GoSem.ClaimMapViews
import Derived.JoinedTies
import Derived.KernelRfl
namespace Go.Proofs.YtgmilpefnaadmaaDoor
/- THE CELL 'sum', in the pinned program and in every row, IS THE sha256 OF THE DUMP (.gsa) THAT YtgmilpefnaadmaaDoorProg.lean LOADS. Nothing in Lean hashes anything: it is a label: what it is worth is what the hold of that sum in a sandbox is worth. -/
noncomputable def Tryd.pinned : Pinned := { name := "ytgmilpefnaadmaadoor", sum := "8c0615c76b657057d9f22025f74284a4350d651acc66103df5a819edbc0f118c", checked := Tryd.checked }
namespace Rows
def none {H : Type} : Left H := { results := [], args := [] }

/- WHAT THE LISTED PACKAGE-LEVEL VARIABLES READ AS WHEN THE CALL BEGINS. Each datum BY PROGRAM (the guide's laid-datum.mjs) off the statement by which the dump's own 'gosem.cut.vars' lays the variable. In a bare row this is a premise. The card (YtgmilpefnaadmaaDoorCards.lean) ties it to the program's text. -/
def laid_math_bits_deBruijn32tab {H : Type} : DataW H := .agg [.lit (.int .u8 0), .lit (.int .u8 1), .lit (.int .u8 28), .lit (.int .u8 2), .lit (.int .u8 29), .lit (.int .u8 14), .lit (.int .u8 24), .lit (.int .u8 3), .lit (.int .u8 30), .lit (.int .u8 22), .lit (.int .u8 20), .lit (.int .u8 15), .lit (.int .u8 25), .lit (.int .u8 17), .lit (.int .u8 4), .lit (.int .u8 8), .lit (.int .u8 31), .lit (.int .u8 27), .lit (.int .u8 13), .lit (.int .u8 23), .lit (.int .u8 21), .lit (.int .u8 19), .lit (.int .u8 16), .lit (.int .u8 7), .lit (.int .u8 26), .lit (.int .u8 12), .lit (.int .u8 18), .lit (.int .u8 6), .lit (.int .u8 11), .lit (.int .u8 5), .lit (.int .u8 10), .lit (.int .u8 9)]
def laid_math_bits_deBruijn64tab {H : Type} : DataW H := .agg [.lit (.int .u8 0), .lit (.int .u8 1), .lit (.int .u8 56), .lit (.int .u8 2), .lit (.int .u8 57), .lit (.int .u8 49), .lit (.int .u8 28), .lit (.int .u8 3), .lit (.int .u8 61), .lit (.int .u8 58), .lit (.int .u8 42), .lit (.int .u8 50), .lit (.int .u8 38), .lit (.int .u8 29), .lit (.int .u8 17), .lit (.int .u8 4), .lit (.int .u8 62), .lit (.int .u8 47), .lit (.int .u8 59), .lit (.int .u8 36), .lit (.int .u8 45), .lit (.int .u8 43), .lit (.int .u8 51), .lit (.int .u8 22), .lit (.int .u8 53), .lit (.int .u8 39), .lit (.int .u8 33), .lit (.int .u8 30), .lit (.int .u8 24), .lit (.int .u8 18), .lit (.int .u8 12), .lit (.int .u8 5), .lit (.int .u8 63), .lit (.int .u8 55), .lit (.int .u8 48), .lit (.int .u8 27), .lit (.int .u8 60), .lit (.int .u8 41), .lit (.int .u8 37), .lit (.int .u8 16), .lit (.int .u8 46), .lit (.int .u8 35), .lit (.int .u8 44), .lit (.int .u8 21), .lit (.int .u8 52), .lit (.int .u8 32), .lit (.int .u8 23), .lit (.int .u8 11), .lit (.int .u8 54), .lit (.int .u8 26), .lit (.int .u8 40), .lit (.int .u8 15), .lit (.int .u8 34), .lit (.int .u8 20), .lit (.int .u8 31), .lit (.int .u8 10), .lit (.int .u8 25), .lit (.int .u8 14), .lit (.int .u8 19), .lit (.int .u8 9), .lit (.int .u8 13), .lit (.int .u8 8), .lit (.int .u8 7), .lit (.int .u8 6)]
def laid_internal_strconv_uint64pow10 {H : Type} : DataW H := .agg [.lit (.int .u64 1), .lit (.int .u64 10), .lit (.int .u64 100), .lit (.int .u64 1000), .lit (.int .u64 10000), .lit (.int .u64 100000), .lit (.int .u64 1000000), .lit (.int .u64 10000000), .lit (.int .u64 100000000), .lit (.int .u64 1000000000), .lit (.int .u64 10000000000), .lit (.int .u64 100000000000), .lit (.int .u64 1000000000000), .lit (.int .u64 10000000000000), .lit (.int .u64 100000000000000), .lit (.int .u64 1000000000000000), .lit (.int .u64 10000000000000000), .lit (.int .u64 100000000000000000), .lit (.int .u64 1000000000000000000), .lit (.int .u64 10000000000000000000)]

/-- 'laws.FnRemoveNodeWhole': WHATEVER THE INPUT: true; the input reads as it did. -/
def fnRemoveNodeWholeSpec : ChangeSpec := { name := "fnRemoveNodeWhole", fn := fun _ => fun
  | [d] => { results := [.lit (.bool true)], args := [d] }
  | _ => none }
def fnRemoveNodeWholeRow : OpenClaim := { program := "ytgmilpefnaadmaadoor", sum := "8c0615c76b657057d9f22025f74284a4350d651acc66103df5a819edbc0f118c", func := "loop.example/resourcestore/laws.FnRemoveNodeWhole", spec := "fnRemoveNodeWhole", unfollowed := true, recurses := true, named := ["internal/strconv.uint64pow10", "math/bits.deBruijn32tab", "math/bits.deBruijn64tab"], apart := false, laid := [("math/bits.deBruijn32tab", laid_math_bits_deBruijn32tab), ("math/bits.deBruijn64tab", laid_math_bits_deBruijn64tab), ("internal/strconv.uint64pow10", laid_internal_strconv_uint64pow10)] }
def FnRemoveNodeWholeSaid : Prop := fnRemoveNodeWholeRow.holds Tryd.pinned (OpenSpec.ofChange fnRemoveNodeWholeSpec)

/-- ITS FALSE NEIGHBOUR: 'it returns false'. Refute it at one input. -/
def fnRemoveNodeWholeWrong : ChangeSpec := { name := "fnRemoveNodeWhole", fn := fun _ => fun
  | [d] => { results := [.lit (.bool false)], args := [d] }
  | _ => none }
def FnRemoveNodeWholeWrongFalsely : Prop := fnRemoveNodeWholeRow.holds Tryd.pinned (OpenSpec.ofChange fnRemoveNodeWholeWrong)

/-- 'laws.FnRemoveNode': WHATEVER THE INPUT: true; the input reads as it did. -/
def fnRemoveNodeSpec : ChangeSpec := { name := "fnRemoveNode", fn := fun _ => fun
  | [d] => { results := [.lit (.bool true)], args := [d] }
  | _ => none }
def fnRemoveNodeRow : OpenClaim := { program := "ytgmilpefnaadmaadoor", sum := "8c0615c76b657057d9f22025f74284a4350d651acc66103df5a819edbc0f118c", func := "loop.example/resourcestore/laws.FnRemoveNode", spec := "fnRemoveNode", inPlace := ["slices.overlaps[string]", "slices.overlaps[loop.example/resourcestore/impl.Node]"], unfollowed := true, recurses := true, named := ["internal/strconv.uint64pow10", "math/bits.deBruijn32tab", "math/bits.deBruijn64tab"], apart := false, laid := [("math/bits.deBruijn32tab", laid_math_bits_deBruijn32tab), ("math/bits.deBruijn64tab", laid_math_bits_deBruijn64tab), ("internal/strconv.uint64pow10", laid_internal_strconv_uint64pow10)] }
def FnRemoveNodeSaid : Prop := fnRemoveNodeRow.holds Tryd.pinned (OpenSpec.ofChange fnRemoveNodeSpec)

/-- ITS FALSE NEIGHBOUR: 'it returns false'. Refute it at one input. -/
def fnRemoveNodeWrong : ChangeSpec := { name := "fnRemoveNode", fn := fun _ => fun
  | [d] => { results := [.lit (.bool false)], args := [d] }
  | _ => none }
def FnRemoveNodeWrongFalsely : Prop := fnRemoveNodeRow.holds Tryd.pinned (OpenSpec.ofChange fnRemoveNodeWrong)

/-- 'laws.FnAddNode': WHATEVER THE INPUT: true; the input reads as it did. -/
def fnAddNodeSpec : ChangeSpec := { name := "fnAddNode", fn := fun _ => fun
  | [d] => { results := [.lit (.bool true)], args := [d] }
  | _ => none }
def fnAddNodeRow : OpenClaim := { program := "ytgmilpefnaadmaadoor", sum := "8c0615c76b657057d9f22025f74284a4350d651acc66103df5a819edbc0f118c", func := "loop.example/resourcestore/laws.FnAddNode", spec := "fnAddNode", inPlace := ["slices.overlaps[string]", "slices.overlaps[loop.example/resourcestore/impl.Node]"], unfollowed := true, recurses := true, named := ["internal/strconv.uint64pow10", "math/bits.deBruijn32tab", "math/bits.deBruijn64tab"], apart := false, laid := [("math/bits.deBruijn32tab", laid_math_bits_deBruijn32tab), ("math/bits.deBruijn64tab", laid_math_bits_deBruijn64tab), ("internal/strconv.uint64pow10", laid_internal_strconv_uint64pow10)] }
def FnAddNodeSaid : Prop := fnAddNodeRow.holds Tryd.pinned (OpenSpec.ofChange fnAddNodeSpec)

/-- ITS FALSE NEIGHBOUR: 'it returns false'. Refute it at one input. -/
def fnAddNodeWrong : ChangeSpec := { name := "fnAddNode", fn := fun _ => fun
  | [d] => { results := [.lit (.bool false)], args := [d] }
  | _ => none }
def FnAddNodeWrongFalsely : Prop := fnAddNodeRow.holds Tryd.pinned (OpenSpec.ofChange fnAddNodeWrong)

/-- 'laws.FnAddNodeCount': WHATEVER THE INPUT: true; the input reads as it did. -/
def fnAddNodeCountSpec : ChangeSpec := { name := "fnAddNodeCount", fn := fun _ => fun
  | [d] => { results := [.lit (.bool true)], args := [d] }
  | _ => none }
def fnAddNodeCountRow : OpenClaim := { program := "ytgmilpefnaadmaadoor", sum := "8c0615c76b657057d9f22025f74284a4350d651acc66103df5a819edbc0f118c", func := "loop.example/resourcestore/laws.FnAddNodeCount", spec := "fnAddNodeCount", inPlace := ["slices.overlaps[string]", "slices.overlaps[loop.example/resourcestore/impl.Node]"], unfollowed := true, recurses := true, named := ["internal/strconv.uint64pow10", "math/bits.deBruijn32tab", "math/bits.deBruijn64tab"], apart := false, laid := [("math/bits.deBruijn32tab", laid_math_bits_deBruijn32tab), ("math/bits.deBruijn64tab", laid_math_bits_deBruijn64tab), ("internal/strconv.uint64pow10", laid_internal_strconv_uint64pow10)] }
def FnAddNodeCountSaid : Prop := fnAddNodeCountRow.holds Tryd.pinned (OpenSpec.ofChange fnAddNodeCountSpec)

/-- ITS FALSE NEIGHBOUR: 'it returns false'. Refute it at one input. -/
def fnAddNodeCountWrong : ChangeSpec := { name := "fnAddNodeCount", fn := fun _ => fun
  | [d] => { results := [.lit (.bool false)], args := [d] }
  | _ => none }
def FnAddNodeCountWrongFalsely : Prop := fnAddNodeCountRow.holds Tryd.pinned (OpenSpec.ofChange fnAddNodeCountWrong)

/-- 'laws.FnAddNodeRemove': WHATEVER THE INPUT: true; the input reads as it did. -/
def fnAddNodeRemoveSpec : ChangeSpec := { name := "fnAddNodeRemove", fn := fun _ => fun
  | [d] => { results := [.lit (.bool true)], args := [d] }
  | _ => none }
def fnAddNodeRemoveRow : OpenClaim := { program := "ytgmilpefnaadmaadoor", sum := "8c0615c76b657057d9f22025f74284a4350d651acc66103df5a819edbc0f118c", func := "loop.example/resourcestore/laws.FnAddNodeRemove", spec := "fnAddNodeRemove", inPlace := ["slices.overlaps[string]", "slices.overlaps[loop.example/resourcestore/impl.Node]"], unfollowed := true, recurses := true, named := ["internal/strconv.uint64pow10", "math/bits.deBruijn32tab", "math/bits.deBruijn64tab"], apart := false, laid := [("math/bits.deBruijn32tab", laid_math_bits_deBruijn32tab), ("math/bits.deBruijn64tab", laid_math_bits_deBruijn64tab), ("internal/strconv.uint64pow10", laid_internal_strconv_uint64pow10)] }
def FnAddNodeRemoveSaid : Prop := fnAddNodeRemoveRow.holds Tryd.pinned (OpenSpec.ofChange fnAddNodeRemoveSpec)

/-- ITS FALSE NEIGHBOUR: 'it returns false'. Refute it at one input. -/
def fnAddNodeRemoveWrong : ChangeSpec := { name := "fnAddNodeRemove", fn := fun _ => fun
  | [d] => { results := [.lit (.bool false)], args := [d] }
  | _ => none }
def FnAddNodeRemoveWrongFalsely : Prop := fnAddNodeRemoveRow.holds Tryd.pinned (OpenSpec.ofChange fnAddNodeRemoveWrong)

/-- 'laws.FnAddNodeEnd': WHATEVER THE INPUT: true; the input reads as it did. -/
def fnAddNodeEndSpec : ChangeSpec := { name := "fnAddNodeEnd", fn := fun _ => fun
  | [d] => { results := [.lit (.bool true)], args := [d] }
  | _ => none }
def fnAddNodeEndRow : OpenClaim := { program := "ytgmilpefnaadmaadoor", sum := "8c0615c76b657057d9f22025f74284a4350d651acc66103df5a819edbc0f118c", func := "loop.example/resourcestore/laws.FnAddNodeEnd", spec := "fnAddNodeEnd", inPlace := ["slices.overlaps[string]", "slices.overlaps[loop.example/resourcestore/impl.Node]"], unfollowed := true, recurses := true, named := ["internal/strconv.uint64pow10", "math/bits.deBruijn32tab", "math/bits.deBruijn64tab"], apart := false, laid := [("math/bits.deBruijn32tab", laid_math_bits_deBruijn32tab), ("math/bits.deBruijn64tab", laid_math_bits_deBruijn64tab), ("internal/strconv.uint64pow10", laid_internal_strconv_uint64pow10)] }
def FnAddNodeEndSaid : Prop := fnAddNodeEndRow.holds Tryd.pinned (OpenSpec.ofChange fnAddNodeEndSpec)

/-- ITS FALSE NEIGHBOUR: 'it returns false'. Refute it at one input. -/
def fnAddNodeEndWrong : ChangeSpec := { name := "fnAddNodeEnd", fn := fun _ => fun
  | [d] => { results := [.lit (.bool false)], args := [d] }
  | _ => none }
def FnAddNodeEndWrongFalsely : Prop := fnAddNodeEndRow.holds Tryd.pinned (OpenSpec.ofChange fnAddNodeEndWrong)

/-- 'laws.FnMergeForNames': WHATEVER THE INPUT: true; the input reads as it did. -/
def fnMergeForNamesSpec : ChangeSpec := { name := "fnMergeForNames", fn := fun _ => fun
  | [d] => { results := [.lit (.bool true)], args := [d] }
  | _ => none }
def fnMergeForNamesRow : OpenClaim := { program := "ytgmilpefnaadmaadoor", sum := "8c0615c76b657057d9f22025f74284a4350d651acc66103df5a819edbc0f118c", func := "loop.example/resourcestore/laws.FnMergeForNames", spec := "fnMergeForNames", inPlace := ["slices.overlaps[string]", "slices.overlaps[loop.example/resourcestore/impl.Node]", "internal/bytealg.abigen_runtime_cmpstring"], recurses := true, named := ["internal/strconv.uint64pow10", "math/bits.deBruijn32tab", "math/bits.deBruijn64tab"], apart := false, laid := [("math/bits.deBruijn32tab", laid_math_bits_deBruijn32tab), ("math/bits.deBruijn64tab", laid_math_bits_deBruijn64tab), ("internal/strconv.uint64pow10", laid_internal_strconv_uint64pow10)] }
def FnMergeForNamesSaid : Prop := fnMergeForNamesRow.holds Tryd.pinned (OpenSpec.ofChange fnMergeForNamesSpec)

/-- ITS FALSE NEIGHBOUR: 'it returns false'. Refute it at one input. -/
def fnMergeForNamesWrong : ChangeSpec := { name := "fnMergeForNames", fn := fun _ => fun
  | [d] => { results := [.lit (.bool false)], args := [d] }
  | _ => none }
def FnMergeForNamesWrongFalsely : Prop := fnMergeForNamesRow.holds Tryd.pinned (OpenSpec.ofChange fnMergeForNamesWrong)

/- THE SECOND FORM. 'bulk': how many values and letters a reading holds, each counted each time it is reached (what is shared counts as often as it is met; a slice's spare places count too). A statement '..UptoSaid' is the law's where the arguments, and the package variables that the reading takes, are together of bulk at most 1048576: NARROWER than '..Said'. Prove '..Said' where nothing that the law and all that it calls make is longer than what came in: it says more and counts as full. Else prove '..UptoSaid'. A law counts once. -/
mutual
def uptoBulk {H : Type} : DataW H → Nat
  | .lit (.string bytes) => bytes.length + 1
  | .lit _ => 1
  | .nil => 1
  | .ptr d => uptoBulk d + 1
  | .slice elems spare => uptoBulkAll elems + uptoBulkAll spare + 1
  | .agg parts => uptoBulkAll parts + 1
  | .iface _ d => uptoBulk d + 1
  | .map entries => uptoBulkEntries entries + 1
  | .held _ => 1
def uptoBulkAll {H : Type} : List (DataW H) → Nat
  | [] => 0
  | d :: r => uptoBulk d + uptoBulkAll r
def uptoBulkEntries {H : Type} : List (Lit × DataW H) → Nat
  | [] => 0
  | x :: r => uptoBulkEntry x + uptoBulkEntries r
def uptoBulkEntry {H : Type} : Lit × DataW H → Nat
  | (.string bytes, d) => bytes.length + uptoBulk d + 1
  | (_, d) => uptoBulk d + 1
 end
def uptoSmall : (H : Type) → List (DataW H) → Bool := fun _ ds => decide (uptoBulkAll ds ≤ 1048576)
def OpenSpec.upto (s : _root_.Go.ChangeSpec) : _root_.Go.OpenSpec := { _root_.Go.OpenSpec.ofChange s with cond := some uptoSmall }

/-- 'laws.FnRemoveNodeWhole', WHERE WHAT IT READS IS OF BULK AT MOST 1048576: true; the input reads as it did. -/
def fnRemoveNodeWholeUptoRow : OpenClaim := { program := "ytgmilpefnaadmaadoor", sum := "8c0615c76b657057d9f22025f74284a4350d651acc66103df5a819edbc0f118c", func := "loop.example/resourcestore/laws.FnRemoveNodeWhole", spec := "fnRemoveNodeWhole", unfollowed := true, recurses := true, named := ["internal/strconv.uint64pow10", "math/bits.deBruijn32tab", "math/bits.deBruijn64tab"], apart := false, laid := [("math/bits.deBruijn32tab", laid_math_bits_deBruijn32tab), ("math/bits.deBruijn64tab", laid_math_bits_deBruijn64tab), ("internal/strconv.uint64pow10", laid_internal_strconv_uint64pow10)], narrowed := true }
def FnRemoveNodeWholeUptoSaid : Prop := fnRemoveNodeWholeUptoRow.holds Tryd.pinned (OpenSpec.upto fnRemoveNodeWholeSpec)

/-- 'laws.FnRemoveNode', WHERE WHAT IT READS IS OF BULK AT MOST 1048576: true; the input reads as it did. -/
def fnRemoveNodeUptoRow : OpenClaim := { program := "ytgmilpefnaadmaadoor", sum := "8c0615c76b657057d9f22025f74284a4350d651acc66103df5a819edbc0f118c", func := "loop.example/resourcestore/laws.FnRemoveNode", spec := "fnRemoveNode", inPlace := ["slices.overlaps[string]", "slices.overlaps[loop.example/resourcestore/impl.Node]"], unfollowed := true, recurses := true, named := ["internal/strconv.uint64pow10", "math/bits.deBruijn32tab", "math/bits.deBruijn64tab"], apart := false, laid := [("math/bits.deBruijn32tab", laid_math_bits_deBruijn32tab), ("math/bits.deBruijn64tab", laid_math_bits_deBruijn64tab), ("internal/strconv.uint64pow10", laid_internal_strconv_uint64pow10)], narrowed := true }
def FnRemoveNodeUptoSaid : Prop := fnRemoveNodeUptoRow.holds Tryd.pinned (OpenSpec.upto fnRemoveNodeSpec)

/-- 'laws.FnAddNode', WHERE WHAT IT READS IS OF BULK AT MOST 1048576: true; the input reads as it did. -/
def fnAddNodeUptoRow : OpenClaim := { program := "ytgmilpefnaadmaadoor", sum := "8c0615c76b657057d9f22025f74284a4350d651acc66103df5a819edbc0f118c", func := "loop.example/resourcestore/laws.FnAddNode", spec := "fnAddNode", inPlace := ["slices.overlaps[string]", "slices.overlaps[loop.example/resourcestore/impl.Node]"], unfollowed := true, recurses := true, named := ["internal/strconv.uint64pow10", "math/bits.deBruijn32tab", "math/bits.deBruijn64tab"], apart := false, laid := [("math/bits.deBruijn32tab", laid_math_bits_deBruijn32tab), ("math/bits.deBruijn64tab", laid_math_bits_deBruijn64tab), ("internal/strconv.uint64pow10", laid_internal_strconv_uint64pow10)], narrowed := true }
def FnAddNodeUptoSaid : Prop := fnAddNodeUptoRow.holds Tryd.pinned (OpenSpec.upto fnAddNodeSpec)

/-- 'laws.FnAddNodeCount', WHERE WHAT IT READS IS OF BULK AT MOST 1048576: true; the input reads as it did. -/
def fnAddNodeCountUptoRow : OpenClaim := { program := "ytgmilpefnaadmaadoor", sum := "8c0615c76b657057d9f22025f74284a4350d651acc66103df5a819edbc0f118c", func := "loop.example/resourcestore/laws.FnAddNodeCount", spec := "fnAddNodeCount", inPlace := ["slices.overlaps[string]", "slices.overlaps[loop.example/resourcestore/impl.Node]"], unfollowed := true, recurses := true, named := ["internal/strconv.uint64pow10", "math/bits.deBruijn32tab", "math/bits.deBruijn64tab"], apart := false, laid := [("math/bits.deBruijn32tab", laid_math_bits_deBruijn32tab), ("math/bits.deBruijn64tab", laid_math_bits_deBruijn64tab), ("internal/strconv.uint64pow10", laid_internal_strconv_uint64pow10)], narrowed := true }
def FnAddNodeCountUptoSaid : Prop := fnAddNodeCountUptoRow.holds Tryd.pinned (OpenSpec.upto fnAddNodeCountSpec)

/-- 'laws.FnAddNodeRemove', WHERE WHAT IT READS IS OF BULK AT MOST 1048576: true; the input reads as it did. -/
def fnAddNodeRemoveUptoRow : OpenClaim := { program := "ytgmilpefnaadmaadoor", sum := "8c0615c76b657057d9f22025f74284a4350d651acc66103df5a819edbc0f118c", func := "loop.example/resourcestore/laws.FnAddNodeRemove", spec := "fnAddNodeRemove", inPlace := ["slices.overlaps[string]", "slices.overlaps[loop.example/resourcestore/impl.Node]"], unfollowed := true, recurses := true, named := ["internal/strconv.uint64pow10", "math/bits.deBruijn32tab", "math/bits.deBruijn64tab"], apart := false, laid := [("math/bits.deBruijn32tab", laid_math_bits_deBruijn32tab), ("math/bits.deBruijn64tab", laid_math_bits_deBruijn64tab), ("internal/strconv.uint64pow10", laid_internal_strconv_uint64pow10)], narrowed := true }
def FnAddNodeRemoveUptoSaid : Prop := fnAddNodeRemoveUptoRow.holds Tryd.pinned (OpenSpec.upto fnAddNodeRemoveSpec)

/-- 'laws.FnAddNodeEnd', WHERE WHAT IT READS IS OF BULK AT MOST 1048576: true; the input reads as it did. -/
def fnAddNodeEndUptoRow : OpenClaim := { program := "ytgmilpefnaadmaadoor", sum := "8c0615c76b657057d9f22025f74284a4350d651acc66103df5a819edbc0f118c", func := "loop.example/resourcestore/laws.FnAddNodeEnd", spec := "fnAddNodeEnd", inPlace := ["slices.overlaps[string]", "slices.overlaps[loop.example/resourcestore/impl.Node]"], unfollowed := true, recurses := true, named := ["internal/strconv.uint64pow10", "math/bits.deBruijn32tab", "math/bits.deBruijn64tab"], apart := false, laid := [("math/bits.deBruijn32tab", laid_math_bits_deBruijn32tab), ("math/bits.deBruijn64tab", laid_math_bits_deBruijn64tab), ("internal/strconv.uint64pow10", laid_internal_strconv_uint64pow10)], narrowed := true }
def FnAddNodeEndUptoSaid : Prop := fnAddNodeEndUptoRow.holds Tryd.pinned (OpenSpec.upto fnAddNodeEndSpec)

/-- 'laws.FnMergeForNames', WHERE WHAT IT READS IS OF BULK AT MOST 1048576: true; the input reads as it did. -/
def fnMergeForNamesUptoRow : OpenClaim := { program := "ytgmilpefnaadmaadoor", sum := "8c0615c76b657057d9f22025f74284a4350d651acc66103df5a819edbc0f118c", func := "loop.example/resourcestore/laws.FnMergeForNames", spec := "fnMergeForNames", inPlace := ["slices.overlaps[string]", "slices.overlaps[loop.example/resourcestore/impl.Node]", "internal/bytealg.abigen_runtime_cmpstring"], recurses := true, named := ["internal/strconv.uint64pow10", "math/bits.deBruijn32tab", "math/bits.deBruijn64tab"], apart := false, laid := [("math/bits.deBruijn32tab", laid_math_bits_deBruijn32tab), ("math/bits.deBruijn64tab", laid_math_bits_deBruijn64tab), ("internal/strconv.uint64pow10", laid_internal_strconv_uint64pow10)], narrowed := true }
def FnMergeForNamesUptoSaid : Prop := fnMergeForNamesUptoRow.holds Tryd.pinned (OpenSpec.upto fnMergeForNamesSpec)

end Rows
end Go.Proofs.YtgmilpefnaadmaaDoor
