/-
  NARROWER THAN 'FOR EVERY INPUT', by the rows' own cells (each row's printed sentence says how): FnStoreSize: laid · FnStoreSizePut: laid · FnCompareNodesText: laid · FnTrimStore: laid · FnTrimStoreOld: laid · FnTrimStoreEnough: laid.
  DERIVED. THE GIVEN ROWS OF THIS SEAT. 6 by the template 'for every input the law returns true; each argument reads behind the call as it read before'; 0 by the template 'total and deterministic' (their statements: YtkalanmdpnapbaaDoorTotals.lean).
  GIVEN WITH THE SEED: the statements are not yours to turn. If you find one false, say at which input.
  Laid BY PROGRAM, IN A SANDBOX (cutbox-rows.mjs): the forced cells as the released guide's own fill.sh prints them over the translation d785704ef508ce7a… (all of the seat's roots in one cut). By AI agents, Wed Nov 11 2026. No macro, syntax, notation, axiom, sorry.
-/
import Derived.Test.YtkalanmdpnapbaaDoorChecked
import GoSem.Claim
import GoSem.ClaimJoined
import GoSem.ClaimMapViews
import Derived.JoinedTies
import Derived.KernelRfl
namespace Go.Proofs.YtkalanmdpnapbaaDoor
/- THE CELL 'sum', in the pinned program and in every row, IS THE sha256 OF THE DUMP (.gsa) THAT YtkalanmdpnapbaaDoorProg.lean LOADS. Nothing in Lean hashes anything: it is a label: what it is worth is what the hold of that sum in a sandbox is worth. -/
noncomputable def Tryd.pinned : Pinned := { name := "ytkalanmdpnapbaadoor", sum := "d785704ef508ce7a450430643c21fe0727d8219f3aa46e8021a83cb91f95fd9a", checked := Tryd.checked }
namespace Rows
def none {H : Type} : Left H := { results := [], args := [] }

/- WHAT THE LISTED PACKAGE-LEVEL VARIABLES READ AS WHEN THE CALL BEGINS. Each datum BY PROGRAM (the guide's laid-datum.mjs) off the statement by which the dump's own 'gosem.cut.vars' lays the variable. In a bare row this is a premise. The card (YtkalanmdpnapbaaDoorCards.lean) ties it to the program's text. -/
def laid_math_bits_deBruijn32tab {H : Type} : DataW H := .agg [.lit (.int .u8 0), .lit (.int .u8 1), .lit (.int .u8 28), .lit (.int .u8 2), .lit (.int .u8 29), .lit (.int .u8 14), .lit (.int .u8 24), .lit (.int .u8 3), .lit (.int .u8 30), .lit (.int .u8 22), .lit (.int .u8 20), .lit (.int .u8 15), .lit (.int .u8 25), .lit (.int .u8 17), .lit (.int .u8 4), .lit (.int .u8 8), .lit (.int .u8 31), .lit (.int .u8 27), .lit (.int .u8 13), .lit (.int .u8 23), .lit (.int .u8 21), .lit (.int .u8 19), .lit (.int .u8 16), .lit (.int .u8 7), .lit (.int .u8 26), .lit (.int .u8 12), .lit (.int .u8 18), .lit (.int .u8 6), .lit (.int .u8 11), .lit (.int .u8 5), .lit (.int .u8 10), .lit (.int .u8 9)]
def laid_math_bits_deBruijn64tab {H : Type} : DataW H := .agg [.lit (.int .u8 0), .lit (.int .u8 1), .lit (.int .u8 56), .lit (.int .u8 2), .lit (.int .u8 57), .lit (.int .u8 49), .lit (.int .u8 28), .lit (.int .u8 3), .lit (.int .u8 61), .lit (.int .u8 58), .lit (.int .u8 42), .lit (.int .u8 50), .lit (.int .u8 38), .lit (.int .u8 29), .lit (.int .u8 17), .lit (.int .u8 4), .lit (.int .u8 62), .lit (.int .u8 47), .lit (.int .u8 59), .lit (.int .u8 36), .lit (.int .u8 45), .lit (.int .u8 43), .lit (.int .u8 51), .lit (.int .u8 22), .lit (.int .u8 53), .lit (.int .u8 39), .lit (.int .u8 33), .lit (.int .u8 30), .lit (.int .u8 24), .lit (.int .u8 18), .lit (.int .u8 12), .lit (.int .u8 5), .lit (.int .u8 63), .lit (.int .u8 55), .lit (.int .u8 48), .lit (.int .u8 27), .lit (.int .u8 60), .lit (.int .u8 41), .lit (.int .u8 37), .lit (.int .u8 16), .lit (.int .u8 46), .lit (.int .u8 35), .lit (.int .u8 44), .lit (.int .u8 21), .lit (.int .u8 52), .lit (.int .u8 32), .lit (.int .u8 23), .lit (.int .u8 11), .lit (.int .u8 54), .lit (.int .u8 26), .lit (.int .u8 40), .lit (.int .u8 15), .lit (.int .u8 34), .lit (.int .u8 20), .lit (.int .u8 31), .lit (.int .u8 10), .lit (.int .u8 25), .lit (.int .u8 14), .lit (.int .u8 19), .lit (.int .u8 9), .lit (.int .u8 13), .lit (.int .u8 8), .lit (.int .u8 7), .lit (.int .u8 6)]
def laid_internal_strconv_uint64pow10 {H : Type} : DataW H := .agg [.lit (.int .u64 1), .lit (.int .u64 10), .lit (.int .u64 100), .lit (.int .u64 1000), .lit (.int .u64 10000), .lit (.int .u64 100000), .lit (.int .u64 1000000), .lit (.int .u64 10000000), .lit (.int .u64 100000000), .lit (.int .u64 1000000000), .lit (.int .u64 10000000000), .lit (.int .u64 100000000000), .lit (.int .u64 1000000000000), .lit (.int .u64 10000000000000), .lit (.int .u64 100000000000000), .lit (.int .u64 1000000000000000), .lit (.int .u64 10000000000000000), .lit (.int .u64 100000000000000000), .lit (.int .u64 1000000000000000000), .lit (.int .u64 10000000000000000000)]

/-- 'laws.FnStoreSize': WHATEVER THE INPUT: true; the input reads as it did. -/
def fnStoreSizeSpec : ChangeSpec := { name := "fnStoreSize", fn := fun _ => fun
  | [d] => { results := [.lit (.bool true)], args := [d] }
  | _ => none }
def fnStoreSizeRow : OpenClaim := { program := "ytkalanmdpnapbaadoor", sum := "d785704ef508ce7a450430643c21fe0727d8219f3aa46e8021a83cb91f95fd9a", func := "loop.example/resourcestore/laws.FnStoreSize", spec := "fnStoreSize", inPlace := ["internal/abi.NoEscape"], recurses := true, named := ["internal/strconv.uint64pow10", "math/bits.deBruijn32tab", "math/bits.deBruijn64tab"], apart := false, laid := [("math/bits.deBruijn32tab", laid_math_bits_deBruijn32tab), ("math/bits.deBruijn64tab", laid_math_bits_deBruijn64tab), ("internal/strconv.uint64pow10", laid_internal_strconv_uint64pow10)] }
def FnStoreSizeSaid : Prop := fnStoreSizeRow.holds Tryd.pinned (OpenSpec.ofChange fnStoreSizeSpec)

/-- ITS FALSE NEIGHBOUR: 'it returns false'. Refute it at one input. -/
def fnStoreSizeWrong : ChangeSpec := { name := "fnStoreSize", fn := fun _ => fun
  | [d] => { results := [.lit (.bool false)], args := [d] }
  | _ => none }
def FnStoreSizeWrongFalsely : Prop := fnStoreSizeRow.holds Tryd.pinned (OpenSpec.ofChange fnStoreSizeWrong)

/-- 'laws.FnStoreSizePut': WHATEVER THE INPUT: true; the input reads as it did. -/
def fnStoreSizePutSpec : ChangeSpec := { name := "fnStoreSizePut", fn := fun _ => fun
  | [d] => { results := [.lit (.bool true)], args := [d] }
  | _ => none }
def fnStoreSizePutRow : OpenClaim := { program := "ytkalanmdpnapbaadoor", sum := "d785704ef508ce7a450430643c21fe0727d8219f3aa46e8021a83cb91f95fd9a", func := "loop.example/resourcestore/laws.FnStoreSizePut", spec := "fnStoreSizePut", inPlace := ["internal/bytealg.abigen_runtime_cmpstring", "slices.overlaps[loop.example/resourcestore/impl.Item]", "internal/abi.NoEscape"], unfollowed := true, recurses := true, named := ["internal/strconv.uint64pow10", "math/bits.deBruijn32tab", "math/bits.deBruijn64tab"], apart := false, laid := [("math/bits.deBruijn32tab", laid_math_bits_deBruijn32tab), ("math/bits.deBruijn64tab", laid_math_bits_deBruijn64tab), ("internal/strconv.uint64pow10", laid_internal_strconv_uint64pow10)] }
def FnStoreSizePutSaid : Prop := fnStoreSizePutRow.holds Tryd.pinned (OpenSpec.ofChange fnStoreSizePutSpec)

/-- ITS FALSE NEIGHBOUR: 'it returns false'. Refute it at one input. -/
def fnStoreSizePutWrong : ChangeSpec := { name := "fnStoreSizePut", fn := fun _ => fun
  | [d] => { results := [.lit (.bool false)], args := [d] }
  | _ => none }
def FnStoreSizePutWrongFalsely : Prop := fnStoreSizePutRow.holds Tryd.pinned (OpenSpec.ofChange fnStoreSizePutWrong)

/-- 'laws.FnCompareNodesText': WHATEVER THE INPUT: true; the input reads as it did. -/
def fnCompareNodesTextSpec : ChangeSpec := { name := "fnCompareNodesText", fn := fun _ => fun
  | [d] => { results := [.lit (.bool true)], args := [d] }
  | _ => none }
def fnCompareNodesTextRow : OpenClaim := { program := "ytkalanmdpnapbaadoor", sum := "d785704ef508ce7a450430643c21fe0727d8219f3aa46e8021a83cb91f95fd9a", func := "loop.example/resourcestore/laws.FnCompareNodesText", spec := "fnCompareNodesText", inPlace := ["internal/bytealg.abigen_runtime_cmpstring", "internal/abi.NoEscape"], recurses := true, named := ["internal/strconv.uint64pow10", "math/bits.deBruijn32tab", "math/bits.deBruijn64tab"], apart := false, laid := [("math/bits.deBruijn32tab", laid_math_bits_deBruijn32tab), ("math/bits.deBruijn64tab", laid_math_bits_deBruijn64tab), ("internal/strconv.uint64pow10", laid_internal_strconv_uint64pow10)] }
def FnCompareNodesTextSaid : Prop := fnCompareNodesTextRow.holds Tryd.pinned (OpenSpec.ofChange fnCompareNodesTextSpec)

/-- ITS FALSE NEIGHBOUR: 'it returns false'. Refute it at one input. -/
def fnCompareNodesTextWrong : ChangeSpec := { name := "fnCompareNodesText", fn := fun _ => fun
  | [d] => { results := [.lit (.bool false)], args := [d] }
  | _ => none }
def FnCompareNodesTextWrongFalsely : Prop := fnCompareNodesTextRow.holds Tryd.pinned (OpenSpec.ofChange fnCompareNodesTextWrong)

/-- 'laws.FnTrimStore': WHATEVER THE INPUT: true; the input reads as it did. -/
def fnTrimStoreSpec : ChangeSpec := { name := "fnTrimStore", fn := fun _ => fun
  | [d] => { results := [.lit (.bool true)], args := [d] }
  | _ => none }
def fnTrimStoreRow : OpenClaim := { program := "ytkalanmdpnapbaadoor", sum := "d785704ef508ce7a450430643c21fe0727d8219f3aa46e8021a83cb91f95fd9a", func := "loop.example/resourcestore/laws.FnTrimStore", spec := "fnTrimStore", inPlace := ["internal/abi.NoEscape", "internal/bytealg.abigen_runtime_cmpstring"], unfollowed := true, recurses := true, named := ["internal/strconv.uint64pow10", "math/bits.deBruijn32tab", "math/bits.deBruijn64tab"], apart := false, laid := [("math/bits.deBruijn32tab", laid_math_bits_deBruijn32tab), ("math/bits.deBruijn64tab", laid_math_bits_deBruijn64tab), ("internal/strconv.uint64pow10", laid_internal_strconv_uint64pow10)] }
def FnTrimStoreSaid : Prop := fnTrimStoreRow.holds Tryd.pinned (OpenSpec.ofChange fnTrimStoreSpec)

/-- ITS FALSE NEIGHBOUR: 'it returns false'. Refute it at one input. -/
def fnTrimStoreWrong : ChangeSpec := { name := "fnTrimStore", fn := fun _ => fun
  | [d] => { results := [.lit (.bool false)], args := [d] }
  | _ => none }
def FnTrimStoreWrongFalsely : Prop := fnTrimStoreRow.holds Tryd.pinned (OpenSpec.ofChange fnTrimStoreWrong)

/-- 'laws.FnTrimStoreOld': WHATEVER THE INPUT: true; the input reads as it did. -/
def fnTrimStoreOldSpec : ChangeSpec := { name := "fnTrimStoreOld", fn := fun _ => fun
  | [d] => { results := [.lit (.bool true)], args := [d] }
  | _ => none }
def fnTrimStoreOldRow : OpenClaim := { program := "ytkalanmdpnapbaadoor", sum := "d785704ef508ce7a450430643c21fe0727d8219f3aa46e8021a83cb91f95fd9a", func := "loop.example/resourcestore/laws.FnTrimStoreOld", spec := "fnTrimStoreOld", inPlace := ["internal/abi.NoEscape", "internal/bytealg.abigen_runtime_cmpstring"], unfollowed := true, recurses := true, named := ["internal/strconv.uint64pow10", "math/bits.deBruijn32tab", "math/bits.deBruijn64tab"], apart := false, laid := [("math/bits.deBruijn32tab", laid_math_bits_deBruijn32tab), ("math/bits.deBruijn64tab", laid_math_bits_deBruijn64tab), ("internal/strconv.uint64pow10", laid_internal_strconv_uint64pow10)] }
def FnTrimStoreOldSaid : Prop := fnTrimStoreOldRow.holds Tryd.pinned (OpenSpec.ofChange fnTrimStoreOldSpec)

/-- ITS FALSE NEIGHBOUR: 'it returns false'. Refute it at one input. -/
def fnTrimStoreOldWrong : ChangeSpec := { name := "fnTrimStoreOld", fn := fun _ => fun
  | [d] => { results := [.lit (.bool false)], args := [d] }
  | _ => none }
def FnTrimStoreOldWrongFalsely : Prop := fnTrimStoreOldRow.holds Tryd.pinned (OpenSpec.ofChange fnTrimStoreOldWrong)

/-- 'laws.FnTrimStoreEnough': WHATEVER THE INPUT: true; the input reads as it did. -/
def fnTrimStoreEnoughSpec : ChangeSpec := { name := "fnTrimStoreEnough", fn := fun _ => fun
  | [d] => { results := [.lit (.bool true)], args := [d] }
  | _ => none }
def fnTrimStoreEnoughRow : OpenClaim := { program := "ytkalanmdpnapbaadoor", sum := "d785704ef508ce7a450430643c21fe0727d8219f3aa46e8021a83cb91f95fd9a", func := "loop.example/resourcestore/laws.FnTrimStoreEnough", spec := "fnTrimStoreEnough", inPlace := ["internal/abi.NoEscape"], recurses := true, named := ["internal/strconv.uint64pow10", "math/bits.deBruijn32tab", "math/bits.deBruijn64tab"], apart := false, laid := [("math/bits.deBruijn32tab", laid_math_bits_deBruijn32tab), ("math/bits.deBruijn64tab", laid_math_bits_deBruijn64tab), ("internal/strconv.uint64pow10", laid_internal_strconv_uint64pow10)] }
def FnTrimStoreEnoughSaid : Prop := fnTrimStoreEnoughRow.holds Tryd.pinned (OpenSpec.ofChange fnTrimStoreEnoughSpec)

/-- ITS FALSE NEIGHBOUR: 'it returns false'. Refute it at one input. -/
def fnTrimStoreEnoughWrong : ChangeSpec := { name := "fnTrimStoreEnough", fn := fun _ => fun
  | [d] => { results := [.lit (.bool false)], args := [d] }
  | _ => none }
def FnTrimStoreEnoughWrongFalsely : Prop := fnTrimStoreEnoughRow.holds Tryd.pinned (OpenSpec.ofChange fnTrimStoreEnoughWrong)

/- THE SECOND FORM. 'bulk': how many values and letters a reading holds, each counted each time it is reached (what is shared counts as often as it is met; a slice's spare places count too). A statement '..UptoSaid' is the law's where the arguments, and the package variables that the reading takes, are together of bulk at most 1048576: NARROWER than '..Said'. Prove '..Said' where nothing that the law and all that it calls make is longer than what came in: it says more and counts as full. Else prove '..UptoSaid'. A law counts once. -/
mutual
def uptoBulk {H : Type} : DataW H → Nat
  | .lit (.string bytes) => bytes.length + 1
  | .lit _ => 1
  | .nil => 1
  | .ptr d => uptoBulk d + 1
  | .slice elems spare => uptoBulkAll elems + uptoBulkAll spare + 1
  | .agg parts => uptoBulkAll parts + 1
  | .iface _ d => uptoBulk d + 1
  | .map entries => uptoBulkEntries entries + 1
  | .held _ => 1
def uptoBulkAll {H : Type} : List (DataW H) → Nat
  | [] => 0
  | d :: r => uptoBulk d + uptoBulkAll r
def uptoBulkEntries {H : Type} : List (Lit × DataW H) → Nat
  | [] => 0
  | x :: r => uptoBulkEntry x + uptoBulkEntries r
def uptoBulkEntry {H : Type} : Lit × DataW H → Nat
  | (.string bytes, d) => bytes.length + uptoBulk d + 1
  | (_, d) => uptoBulk d + 1
 end
def uptoSmall : (H : Type) → List (DataW H) → Bool := fun _ ds => decide (uptoBulkAll ds ≤ 1048576)
def OpenSpec.upto (s : _root_.Go.ChangeSpec) : _root_.Go.OpenSpec := { _root_.Go.OpenSpec.ofChange s with cond := some uptoSmall }

/-- 'laws.FnStoreSize', WHERE WHAT IT READS IS OF BULK AT MOST 1048576: true; the input reads as it did. -/
def fnStoreSizeUptoRow : OpenClaim := { program := "ytkalanmdpnapbaadoor", sum := "d785704ef508ce7a450430643c21fe0727d8219f3aa46e8021a83cb91f95fd9a", func := "loop.example/resourcestore/laws.FnStoreSize", spec := "fnStoreSize", inPlace := ["internal/abi.NoEscape"], recurses := true, named := ["internal/strconv.uint64pow10", "math/bits.deBruijn32tab", "math/bits.deBruijn64tab"], apart := false, laid := [("math/bits.deBruijn32tab", laid_math_bits_deBruijn32tab), ("math/bits.deBruijn64tab", laid_math_bits_deBruijn64tab), ("internal/strconv.uint64pow10", laid_internal_strconv_uint64pow10)], narrowed := true }
def FnStoreSizeUptoSaid : Prop := fnStoreSizeUptoRow.holds Tryd.pinned (OpenSpec.upto fnStoreSizeSpec)

/-- 'laws.FnStoreSizePut', WHERE WHAT IT READS IS OF BULK AT MOST 1048576: true; the input reads as it did. -/
def fnStoreSizePutUptoRow : OpenClaim := { program := "ytkalanmdpnapbaadoor", sum := "d785704ef508ce7a450430643c21fe0727d8219f3aa46e8021a83cb91f95fd9a", func := "loop.example/resourcestore/laws.FnStoreSizePut", spec := "fnStoreSizePut", inPlace := ["internal/bytealg.abigen_runtime_cmpstring", "slices.overlaps[loop.example/resourcestore/impl.Item]", "internal/abi.NoEscape"], unfollowed := true, recurses := true, named := ["internal/strconv.uint64pow10", "math/bits.deBruijn32tab", "math/bits.deBruijn64tab"], apart := false, laid := [("math/bits.deBruijn32tab", laid_math_bits_deBruijn32tab), ("math/bits.deBruijn64tab", laid_math_bits_deBruijn64tab), ("internal/strconv.uint64pow10", laid_internal_strconv_uint64pow10)], narrowed := true }
def FnStoreSizePutUptoSaid : Prop := fnStoreSizePutUptoRow.holds Tryd.pinned (OpenSpec.upto fnStoreSizePutSpec)

/-- 'laws.FnCompareNodesText', WHERE WHAT IT READS IS OF BULK AT MOST 1048576: true; the input reads as it did. -/
def fnCompareNodesTextUptoRow : OpenClaim := { program := "ytkalanmdpnapbaadoor", sum := "d785704ef508ce7a450430643c21fe0727d8219f3aa46e8021a83cb91f95fd9a", func := "loop.example/resourcestore/laws.FnCompareNodesText", spec := "fnCompareNodesText", inPlace := ["internal/bytealg.abigen_runtime_cmpstring", "internal/abi.NoEscape"], recurses := true, named := ["internal/strconv.uint64pow10", "math/bits.deBruijn32tab", "math/bits.deBruijn64tab"], apart := false, laid := [("math/bits.deBruijn32tab", laid_math_bits_deBruijn32tab), ("math/bits.deBruijn64tab", laid_math_bits_deBruijn64tab), ("internal/strconv.uint64pow10", laid_internal_strconv_uint64pow10)], narrowed := true }
def FnCompareNodesTextUptoSaid : Prop := fnCompareNodesTextUptoRow.holds Tryd.pinned (OpenSpec.upto fnCompareNodesTextSpec)

/-- 'laws.FnTrimStore', WHERE WHAT IT READS IS OF BULK AT MOST 1048576: true; the input reads as it did. -/
def fnTrimStoreUptoRow : OpenClaim := { program := "ytkalanmdpnapbaadoor", sum := "d785704ef508ce7a450430643c21fe0727d8219f3aa46e8021a83cb91f95fd9a", func := "loop.example/resourcestore/laws.FnTrimStore", spec := "fnTrimStore", inPlace := ["internal/abi.NoEscape", "internal/bytealg.abigen_runtime_cmpstring"], unfollowed := true, recurses := true, named := ["internal/strconv.uint64pow10", "math/bits.deBruijn32tab", "math/bits.deBruijn64tab"], apart := false, laid := [("math/bits.deBruijn32tab", laid_math_bits_deBruijn32tab), ("math/bits.deBruijn64tab", laid_math_bits_deBruijn64tab), ("internal/strconv.uint64pow10", laid_internal_strconv_uint64pow10)], narrowed := true }
def FnTrimStoreUptoSaid : Prop := fnTrimStoreUptoRow.holds Tryd.pinned (OpenSpec.upto fnTrimStoreSpec)

/-- 'laws.FnTrimStoreOld', WHERE WHAT IT READS IS OF BULK AT MOST 1048576: true; the input reads as it did. -/
def fnTrimStoreOldUptoRow : OpenClaim := { program := "ytkalanmdpnapbaadoor", sum := "d785704ef508ce7a450430643c21fe0727d8219f3aa46e8021a83cb91f95fd9a", func := "loop.example/resourcestore/laws.FnTrimStoreOld", spec := "fnTrimStoreOld", inPlace := ["internal/abi.NoEscape", "internal/bytealg.abigen_runtime_cmpstring"], unfollowed := true, recurses := true, named := ["internal/strconv.uint64pow10", "math/bits.deBruijn32tab", "math/bits.deBruijn64tab"], apart := false, laid := [("math/bits.deBruijn32tab", laid_math_bits_deBruijn32tab), ("math/bits.deBruijn64tab", laid_math_bits_deBruijn64tab), ("internal/strconv.uint64pow10", laid_internal_strconv_uint64pow10)], narrowed := true }
def FnTrimStoreOldUptoSaid : Prop := fnTrimStoreOldUptoRow.holds Tryd.pinned (OpenSpec.upto fnTrimStoreOldSpec)

/-- 'laws.FnTrimStoreEnough', WHERE WHAT IT READS IS OF BULK AT MOST 1048576: true; the input reads as it did. -/
def fnTrimStoreEnoughUptoRow : OpenClaim := { program := "ytkalanmdpnapbaadoor", sum := "d785704ef508ce7a450430643c21fe0727d8219f3aa46e8021a83cb91f95fd9a", func := "loop.example/resourcestore/laws.FnTrimStoreEnough", spec := "fnTrimStoreEnough", inPlace := ["internal/abi.NoEscape"], recurses := true, named := ["internal/strconv.uint64pow10", "math/bits.deBruijn32tab", "math/bits.deBruijn64tab"], apart := false, laid := [("math/bits.deBruijn32tab", laid_math_bits_deBruijn32tab), ("math/bits.deBruijn64tab", laid_math_bits_deBruijn64tab), ("internal/strconv.uint64pow10", laid_internal_strconv_uint64pow10)], narrowed := true }
def FnTrimStoreEnoughUptoSaid : Prop := fnTrimStoreEnoughUptoRow.holds Tryd.pinned (OpenSpec.upto fnTrimStoreEnoughSpec)

end Rows
end Go.Proofs.YtkalanmdpnapbaaDoor
