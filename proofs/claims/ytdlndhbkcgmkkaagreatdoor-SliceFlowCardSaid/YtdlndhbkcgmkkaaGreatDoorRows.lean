/-
  NARROWER THAN 'FOR EVERY INPUT', by the rows' own cells (each row's printed sentence says how): SliceNeeds: loops, laid · SliceFlow: loops, laid · SliceShapes: loops, laid · SliceSets: loops, laid · SliceFiner: loops, laid · SliceBoth: loops, laid · SliceMakes: loops, laid · SliceWhole: loops, laid.
  DERIVED. THE GIVEN ROWS OF THIS SEAT. 8 by the template 'for every input the law returns true; each argument reads behind the call as it read before'; 0 by the template 'total and deterministic' (their statements: YtdlndhbkcgmkkaaGreatDoorTotals.lean).
  GIVEN WITH THE SEED: the statements are not yours to turn. If you find one false, say at which input.
  Laid BY PROGRAM, IN A SANDBOX (cutbox-rows.mjs): the forced cells as the released guide's own fill.sh prints them over the translation a5d70ba77bf9d76e… (all of the seat's roots in one cut). By AI agents, Wed Nov 11 2026. No macro, syntax, notation, axiom, sorry.
-/
import Derived.Test.YtdlndhbkcgmkkaaGreatDoorChecked
import GoSem.Claim
import GoSem.ClaimJoined
import GoSem.ClaimMapViews
import Derived.JoinedTies
import Derived.KernelRfl
namespace Go.Proofs.YtdlndhbkcgmkkaaGreatDoor
/- THE CELL 'sum', in the pinned program and in every row, IS THE sha256 OF THE DUMP (.gsa) THAT YtdlndhbkcgmkkaaGreatDoorProg.lean LOADS. Nothing in Lean hashes anything: it is a label: what it is worth is what the hold of that sum in a sandbox is worth. -/
noncomputable def Tryz.pinned : Pinned := { name := "ytdlndhbkcgmkkaagreatdoor", sum := "a5d70ba77bf9d76e774a6fd5e5bc5d4dc36d63d8c361d6c9c578e3155c3215f1", checked := Tryz.checked }
namespace Rows
def none {H : Type} : Left H := { results := [], args := [] }

/- WHAT THE LISTED PACKAGE-LEVEL VARIABLES READ AS WHEN THE CALL BEGINS. Each datum BY PROGRAM (the guide's laid-datum.mjs) off the statement by which the dump's own 'gosem.cut.vars' lays the variable. In a bare row this is a premise. The card (YtdlndhbkcgmkkaaGreatDoorCards.lean) ties it to the program's text. -/
def laid_math_bits_deBruijn32tab {H : Type} : DataW H := .agg [.lit (.int .u8 0), .lit (.int .u8 1), .lit (.int .u8 28), .lit (.int .u8 2), .lit (.int .u8 29), .lit (.int .u8 14), .lit (.int .u8 24), .lit (.int .u8 3), .lit (.int .u8 30), .lit (.int .u8 22), .lit (.int .u8 20), .lit (.int .u8 15), .lit (.int .u8 25), .lit (.int .u8 17), .lit (.int .u8 4), .lit (.int .u8 8), .lit (.int .u8 31), .lit (.int .u8 27), .lit (.int .u8 13), .lit (.int .u8 23), .lit (.int .u8 21), .lit (.int .u8 19), .lit (.int .u8 16), .lit (.int .u8 7), .lit (.int .u8 26), .lit (.int .u8 12), .lit (.int .u8 18), .lit (.int .u8 6), .lit (.int .u8 11), .lit (.int .u8 5), .lit (.int .u8 10), .lit (.int .u8 9)]
def laid_math_bits_deBruijn64tab {H : Type} : DataW H := .agg [.lit (.int .u8 0), .lit (.int .u8 1), .lit (.int .u8 56), .lit (.int .u8 2), .lit (.int .u8 57), .lit (.int .u8 49), .lit (.int .u8 28), .lit (.int .u8 3), .lit (.int .u8 61), .lit (.int .u8 58), .lit (.int .u8 42), .lit (.int .u8 50), .lit (.int .u8 38), .lit (.int .u8 29), .lit (.int .u8 17), .lit (.int .u8 4), .lit (.int .u8 62), .lit (.int .u8 47), .lit (.int .u8 59), .lit (.int .u8 36), .lit (.int .u8 45), .lit (.int .u8 43), .lit (.int .u8 51), .lit (.int .u8 22), .lit (.int .u8 53), .lit (.int .u8 39), .lit (.int .u8 33), .lit (.int .u8 30), .lit (.int .u8 24), .lit (.int .u8 18), .lit (.int .u8 12), .lit (.int .u8 5), .lit (.int .u8 63), .lit (.int .u8 55), .lit (.int .u8 48), .lit (.int .u8 27), .lit (.int .u8 60), .lit (.int .u8 41), .lit (.int .u8 37), .lit (.int .u8 16), .lit (.int .u8 46), .lit (.int .u8 35), .lit (.int .u8 44), .lit (.int .u8 21), .lit (.int .u8 52), .lit (.int .u8 32), .lit (.int .u8 23), .lit (.int .u8 11), .lit (.int .u8 54), .lit (.int .u8 26), .lit (.int .u8 40), .lit (.int .u8 15), .lit (.int .u8 34), .lit (.int .u8 20), .lit (.int .u8 31), .lit (.int .u8 10), .lit (.int .u8 25), .lit (.int .u8 14), .lit (.int .u8 19), .lit (.int .u8 9), .lit (.int .u8 13), .lit (.int .u8 8), .lit (.int .u8 7), .lit (.int .u8 6)]
def laid_internal_strconv_uint64pow10 {H : Type} : DataW H := .agg [.lit (.int .u64 1), .lit (.int .u64 10), .lit (.int .u64 100), .lit (.int .u64 1000), .lit (.int .u64 10000), .lit (.int .u64 100000), .lit (.int .u64 1000000), .lit (.int .u64 10000000), .lit (.int .u64 100000000), .lit (.int .u64 1000000000), .lit (.int .u64 10000000000), .lit (.int .u64 100000000000), .lit (.int .u64 1000000000000), .lit (.int .u64 10000000000000), .lit (.int .u64 100000000000000), .lit (.int .u64 1000000000000000), .lit (.int .u64 10000000000000000), .lit (.int .u64 100000000000000000), .lit (.int .u64 1000000000000000000), .lit (.int .u64 10000000000000000000)]
def laid_strconv_ErrRange {H : Type} : DataW H := .iface "*errors.errorString" (.ptr (.agg [.lit (.string [118, 97, 108, 117, 101, 32, 111, 117, 116, 32, 111, 102, 32, 114, 97, 110, 103, 101])]))
def laid_strconv_ErrSyntax {H : Type} : DataW H := .iface "*errors.errorString" (.ptr (.agg [.lit (.string [105, 110, 118, 97, 108, 105, 100, 32, 115, 121, 110, 116, 97, 120])]))

/-- 'sleuthlaw05.SliceNeeds': WHATEVER THE INPUT: true; the input reads as it did. -/
def sliceNeedsSpec : ChangeSpec := { name := "sliceNeeds", fn := fun _ => fun
  | [d1, d2] => { results := [.lit (.bool true)], args := [d1, d2] }
  | _ => none }
def sliceNeedsRow : OpenClaim := { program := "ytdlndhbkcgmkkaagreatdoor", sum := "a5d70ba77bf9d76e774a6fd5e5bc5d4dc36d63d8c361d6c9c578e3155c3215f1", func := "sleuth/sleuthlaw05.SliceNeeds", spec := "sliceNeeds", unfollowed := true, recurses := true, named := ["strconv.ErrSyntax", "strconv.ErrRange", "internal/strconv.uint64pow10", "math/bits.deBruijn32tab", "math/bits.deBruijn64tab"], loops := true, apart := false, laid := [("math/bits.deBruijn32tab", laid_math_bits_deBruijn32tab), ("math/bits.deBruijn64tab", laid_math_bits_deBruijn64tab), ("internal/strconv.uint64pow10", laid_internal_strconv_uint64pow10), ("strconv.ErrRange", laid_strconv_ErrRange), ("strconv.ErrSyntax", laid_strconv_ErrSyntax)] }
def SliceNeedsSaid : Prop := sliceNeedsRow.holds Tryz.pinned (OpenSpec.ofChange sliceNeedsSpec)

/-- ITS FALSE NEIGHBOUR: 'it returns false'. Refute it at one input. -/
def sliceNeedsWrong : ChangeSpec := { name := "sliceNeeds", fn := fun _ => fun
  | [d1, d2] => { results := [.lit (.bool false)], args := [d1, d2] }
  | _ => none }
def SliceNeedsWrongFalsely : Prop := sliceNeedsRow.holds Tryz.pinned (OpenSpec.ofChange sliceNeedsWrong)

/-- 'sleuthlaw05.SliceFlow': WHATEVER THE INPUT: true; the input reads as it did. -/
def sliceFlowSpec : ChangeSpec := { name := "sliceFlow", fn := fun _ => fun
  | [d1, d2, d3] => { results := [.lit (.bool true)], args := [d1, d2, d3] }
  | _ => none }
def sliceFlowRow : OpenClaim := { program := "ytdlndhbkcgmkkaagreatdoor", sum := "a5d70ba77bf9d76e774a6fd5e5bc5d4dc36d63d8c361d6c9c578e3155c3215f1", func := "sleuth/sleuthlaw05.SliceFlow", spec := "sliceFlow", unfollowed := true, recurses := true, named := ["strconv.ErrSyntax", "strconv.ErrRange", "internal/strconv.uint64pow10", "math/bits.deBruijn32tab", "math/bits.deBruijn64tab"], loops := true, apart := false, laid := [("math/bits.deBruijn32tab", laid_math_bits_deBruijn32tab), ("math/bits.deBruijn64tab", laid_math_bits_deBruijn64tab), ("internal/strconv.uint64pow10", laid_internal_strconv_uint64pow10), ("strconv.ErrRange", laid_strconv_ErrRange), ("strconv.ErrSyntax", laid_strconv_ErrSyntax)] }
def SliceFlowSaid : Prop := sliceFlowRow.holds Tryz.pinned (OpenSpec.ofChange sliceFlowSpec)

/-- ITS FALSE NEIGHBOUR: 'it returns false'. Refute it at one input. -/
def sliceFlowWrong : ChangeSpec := { name := "sliceFlow", fn := fun _ => fun
  | [d1, d2, d3] => { results := [.lit (.bool false)], args := [d1, d2, d3] }
  | _ => none }
def SliceFlowWrongFalsely : Prop := sliceFlowRow.holds Tryz.pinned (OpenSpec.ofChange sliceFlowWrong)

/-- 'sleuthlaw05.SliceShapes': WHATEVER THE INPUT: true; the input reads as it did. -/
def sliceShapesSpec : ChangeSpec := { name := "sliceShapes", fn := fun _ => fun
  | [d] => { results := [.lit (.bool true)], args := [d] }
  | _ => none }
def sliceShapesRow : OpenClaim := { program := "ytdlndhbkcgmkkaagreatdoor", sum := "a5d70ba77bf9d76e774a6fd5e5bc5d4dc36d63d8c361d6c9c578e3155c3215f1", func := "sleuth/sleuthlaw05.SliceShapes", spec := "sliceShapes", unfollowed := true, recurses := true, named := ["strconv.ErrSyntax", "strconv.ErrRange", "internal/strconv.uint64pow10", "math/bits.deBruijn32tab", "math/bits.deBruijn64tab"], loops := true, apart := false, laid := [("math/bits.deBruijn32tab", laid_math_bits_deBruijn32tab), ("math/bits.deBruijn64tab", laid_math_bits_deBruijn64tab), ("internal/strconv.uint64pow10", laid_internal_strconv_uint64pow10), ("strconv.ErrRange", laid_strconv_ErrRange), ("strconv.ErrSyntax", laid_strconv_ErrSyntax)] }
def SliceShapesSaid : Prop := sliceShapesRow.holds Tryz.pinned (OpenSpec.ofChange sliceShapesSpec)

/-- ITS FALSE NEIGHBOUR: 'it returns false'. Refute it at one input. -/
def sliceShapesWrong : ChangeSpec := { name := "sliceShapes", fn := fun _ => fun
  | [d] => { results := [.lit (.bool false)], args := [d] }
  | _ => none }
def SliceShapesWrongFalsely : Prop := sliceShapesRow.holds Tryz.pinned (OpenSpec.ofChange sliceShapesWrong)

/-- 'sleuthlaw05.SliceSets': WHATEVER THE INPUT: true; the input reads as it did. -/
def sliceSetsSpec : ChangeSpec := { name := "sliceSets", fn := fun _ => fun
  | [d1, d2] => { results := [.lit (.bool true)], args := [d1, d2] }
  | _ => none }
def sliceSetsRow : OpenClaim := { program := "ytdlndhbkcgmkkaagreatdoor", sum := "a5d70ba77bf9d76e774a6fd5e5bc5d4dc36d63d8c361d6c9c578e3155c3215f1", func := "sleuth/sleuthlaw05.SliceSets", spec := "sliceSets", unfollowed := true, recurses := true, named := ["strconv.ErrSyntax", "strconv.ErrRange", "internal/strconv.uint64pow10", "math/bits.deBruijn32tab", "math/bits.deBruijn64tab"], loops := true, apart := false, laid := [("math/bits.deBruijn32tab", laid_math_bits_deBruijn32tab), ("math/bits.deBruijn64tab", laid_math_bits_deBruijn64tab), ("internal/strconv.uint64pow10", laid_internal_strconv_uint64pow10), ("strconv.ErrRange", laid_strconv_ErrRange), ("strconv.ErrSyntax", laid_strconv_ErrSyntax)] }
def SliceSetsSaid : Prop := sliceSetsRow.holds Tryz.pinned (OpenSpec.ofChange sliceSetsSpec)

/-- ITS FALSE NEIGHBOUR: 'it returns false'. Refute it at one input. -/
def sliceSetsWrong : ChangeSpec := { name := "sliceSets", fn := fun _ => fun
  | [d1, d2] => { results := [.lit (.bool false)], args := [d1, d2] }
  | _ => none }
def SliceSetsWrongFalsely : Prop := sliceSetsRow.holds Tryz.pinned (OpenSpec.ofChange sliceSetsWrong)

/-- 'sleuthlaw05.SliceFiner': WHATEVER THE INPUT: true; the input reads as it did. -/
def sliceFinerSpec : ChangeSpec := { name := "sliceFiner", fn := fun _ => fun
  | [d1, d2, d3] => { results := [.lit (.bool true)], args := [d1, d2, d3] }
  | _ => none }
def sliceFinerRow : OpenClaim := { program := "ytdlndhbkcgmkkaagreatdoor", sum := "a5d70ba77bf9d76e774a6fd5e5bc5d4dc36d63d8c361d6c9c578e3155c3215f1", func := "sleuth/sleuthlaw05.SliceFiner", spec := "sliceFiner", unfollowed := true, recurses := true, named := ["strconv.ErrSyntax", "strconv.ErrRange", "internal/strconv.uint64pow10", "math/bits.deBruijn32tab", "math/bits.deBruijn64tab"], loops := true, apart := false, laid := [("math/bits.deBruijn32tab", laid_math_bits_deBruijn32tab), ("math/bits.deBruijn64tab", laid_math_bits_deBruijn64tab), ("internal/strconv.uint64pow10", laid_internal_strconv_uint64pow10), ("strconv.ErrRange", laid_strconv_ErrRange), ("strconv.ErrSyntax", laid_strconv_ErrSyntax)] }
def SliceFinerSaid : Prop := sliceFinerRow.holds Tryz.pinned (OpenSpec.ofChange sliceFinerSpec)

/-- ITS FALSE NEIGHBOUR: 'it returns false'. Refute it at one input. -/
def sliceFinerWrong : ChangeSpec := { name := "sliceFiner", fn := fun _ => fun
  | [d1, d2, d3] => { results := [.lit (.bool false)], args := [d1, d2, d3] }
  | _ => none }
def SliceFinerWrongFalsely : Prop := sliceFinerRow.holds Tryz.pinned (OpenSpec.ofChange sliceFinerWrong)

/-- 'sleuthlaw05.SliceBoth': WHATEVER THE INPUT: true; the input reads as it did. -/
def sliceBothSpec : ChangeSpec := { name := "sliceBoth", fn := fun _ => fun
  | [d1, d2, d3] => { results := [.lit (.bool true)], args := [d1, d2, d3] }
  | _ => none }
def sliceBothRow : OpenClaim := { program := "ytdlndhbkcgmkkaagreatdoor", sum := "a5d70ba77bf9d76e774a6fd5e5bc5d4dc36d63d8c361d6c9c578e3155c3215f1", func := "sleuth/sleuthlaw05.SliceBoth", spec := "sliceBoth", unfollowed := true, recurses := true, named := ["strconv.ErrSyntax", "strconv.ErrRange", "internal/strconv.uint64pow10", "math/bits.deBruijn32tab", "math/bits.deBruijn64tab"], loops := true, apart := false, laid := [("math/bits.deBruijn32tab", laid_math_bits_deBruijn32tab), ("math/bits.deBruijn64tab", laid_math_bits_deBruijn64tab), ("internal/strconv.uint64pow10", laid_internal_strconv_uint64pow10), ("strconv.ErrRange", laid_strconv_ErrRange), ("strconv.ErrSyntax", laid_strconv_ErrSyntax)] }
def SliceBothSaid : Prop := sliceBothRow.holds Tryz.pinned (OpenSpec.ofChange sliceBothSpec)

/-- ITS FALSE NEIGHBOUR: 'it returns false'. Refute it at one input. -/
def sliceBothWrong : ChangeSpec := { name := "sliceBoth", fn := fun _ => fun
  | [d1, d2, d3] => { results := [.lit (.bool false)], args := [d1, d2, d3] }
  | _ => none }
def SliceBothWrongFalsely : Prop := sliceBothRow.holds Tryz.pinned (OpenSpec.ofChange sliceBothWrong)

/-- 'sleuthlaw05.SliceMakes': WHATEVER THE INPUT: true; the input reads as it did. -/
def sliceMakesSpec : ChangeSpec := { name := "sliceMakes", fn := fun _ => fun
  | [d1, d2] => { results := [.lit (.bool true)], args := [d1, d2] }
  | _ => none }
def sliceMakesRow : OpenClaim := { program := "ytdlndhbkcgmkkaagreatdoor", sum := "a5d70ba77bf9d76e774a6fd5e5bc5d4dc36d63d8c361d6c9c578e3155c3215f1", func := "sleuth/sleuthlaw05.SliceMakes", spec := "sliceMakes", unfollowed := true, recurses := true, named := ["strconv.ErrSyntax", "strconv.ErrRange", "internal/strconv.uint64pow10", "math/bits.deBruijn32tab", "math/bits.deBruijn64tab"], loops := true, apart := false, laid := [("math/bits.deBruijn32tab", laid_math_bits_deBruijn32tab), ("math/bits.deBruijn64tab", laid_math_bits_deBruijn64tab), ("internal/strconv.uint64pow10", laid_internal_strconv_uint64pow10), ("strconv.ErrRange", laid_strconv_ErrRange), ("strconv.ErrSyntax", laid_strconv_ErrSyntax)] }
def SliceMakesSaid : Prop := sliceMakesRow.holds Tryz.pinned (OpenSpec.ofChange sliceMakesSpec)

/-- ITS FALSE NEIGHBOUR: 'it returns false'. Refute it at one input. -/
def sliceMakesWrong : ChangeSpec := { name := "sliceMakes", fn := fun _ => fun
  | [d1, d2] => { results := [.lit (.bool false)], args := [d1, d2] }
  | _ => none }
def SliceMakesWrongFalsely : Prop := sliceMakesRow.holds Tryz.pinned (OpenSpec.ofChange sliceMakesWrong)

/-- 'sleuthlaw05.SliceWhole': WHATEVER THE INPUT: true; the input reads as it did. -/
def sliceWholeSpec : ChangeSpec := { name := "sliceWhole", fn := fun _ => fun
  | [d1, d2] => { results := [.lit (.bool true)], args := [d1, d2] }
  | _ => none }
def sliceWholeRow : OpenClaim := { program := "ytdlndhbkcgmkkaagreatdoor", sum := "a5d70ba77bf9d76e774a6fd5e5bc5d4dc36d63d8c361d6c9c578e3155c3215f1", func := "sleuth/sleuthlaw05.SliceWhole", spec := "sliceWhole", unfollowed := true, recurses := true, named := ["strconv.ErrSyntax", "strconv.ErrRange", "internal/strconv.uint64pow10", "math/bits.deBruijn32tab", "math/bits.deBruijn64tab"], loops := true, apart := false, laid := [("math/bits.deBruijn32tab", laid_math_bits_deBruijn32tab), ("math/bits.deBruijn64tab", laid_math_bits_deBruijn64tab), ("internal/strconv.uint64pow10", laid_internal_strconv_uint64pow10), ("strconv.ErrRange", laid_strconv_ErrRange), ("strconv.ErrSyntax", laid_strconv_ErrSyntax)] }
def SliceWholeSaid : Prop := sliceWholeRow.holds Tryz.pinned (OpenSpec.ofChange sliceWholeSpec)

/-- ITS FALSE NEIGHBOUR: 'it returns false'. Refute it at one input. -/
def sliceWholeWrong : ChangeSpec := { name := "sliceWhole", fn := fun _ => fun
  | [d1, d2] => { results := [.lit (.bool false)], args := [d1, d2] }
  | _ => none }
def SliceWholeWrongFalsely : Prop := sliceWholeRow.holds Tryz.pinned (OpenSpec.ofChange sliceWholeWrong)

/- THE SECOND FORM. 'bulk': how many values and letters a reading holds, each counted each time it is reached (what is shared counts as often as it is met; a slice's spare places count too). A statement '..UptoSaid' is the law's where the arguments, and the package variables that the reading takes, are together of bulk at most 1048576: NARROWER than '..Said'. Prove '..Said' where nothing that the law and all that it calls make is longer than what came in: it says more and counts as full. Else prove '..UptoSaid'. A law counts once. -/
mutual
def uptoBulk {H : Type} : DataW H → Nat
  | .lit (.string bytes) => bytes.length + 1
  | .lit _ => 1
  | .nil => 1
  | .ptr d => uptoBulk d + 1
  | .slice elems spare => uptoBulkAll elems + uptoBulkAll spare + 1
  | .agg parts => uptoBulkAll parts + 1
  | .iface _ d => uptoBulk d + 1
  | .map entries => uptoBulkEntries entries + 1
  | .held _ => 1
def uptoBulkAll {H : Type} : List (DataW H) → Nat
  | [] => 0
  | d :: r => uptoBulk d + uptoBulkAll r
def uptoBulkEntries {H : Type} : List (Lit × DataW H) → Nat
  | [] => 0
  | x :: r => uptoBulkEntry x + uptoBulkEntries r
def uptoBulkEntry {H : Type} : Lit × DataW H → Nat
  | (.string bytes, d) => bytes.length + uptoBulk d + 1
  | (_, d) => uptoBulk d + 1
 end
def uptoSmall : (H : Type) → List (DataW H) → Bool := fun _ ds => decide (uptoBulkAll ds ≤ 1048576)
def OpenSpec.upto (s : _root_.Go.ChangeSpec) : _root_.Go.OpenSpec := { _root_.Go.OpenSpec.ofChange s with cond := some uptoSmall }

/-- 'sleuthlaw05.SliceNeeds', WHERE WHAT IT READS IS OF BULK AT MOST 1048576: true; the input reads as it did. -/
def sliceNeedsUptoRow : OpenClaim := { program := "ytdlndhbkcgmkkaagreatdoor", sum := "a5d70ba77bf9d76e774a6fd5e5bc5d4dc36d63d8c361d6c9c578e3155c3215f1", func := "sleuth/sleuthlaw05.SliceNeeds", spec := "sliceNeeds", unfollowed := true, recurses := true, named := ["strconv.ErrSyntax", "strconv.ErrRange", "internal/strconv.uint64pow10", "math/bits.deBruijn32tab", "math/bits.deBruijn64tab"], loops := true, apart := false, laid := [("math/bits.deBruijn32tab", laid_math_bits_deBruijn32tab), ("math/bits.deBruijn64tab", laid_math_bits_deBruijn64tab), ("internal/strconv.uint64pow10", laid_internal_strconv_uint64pow10), ("strconv.ErrRange", laid_strconv_ErrRange), ("strconv.ErrSyntax", laid_strconv_ErrSyntax)], narrowed := true }
def SliceNeedsUptoSaid : Prop := sliceNeedsUptoRow.holds Tryz.pinned (OpenSpec.upto sliceNeedsSpec)

/-- 'sleuthlaw05.SliceFlow', WHERE WHAT IT READS IS OF BULK AT MOST 1048576: true; the input reads as it did. -/
def sliceFlowUptoRow : OpenClaim := { program := "ytdlndhbkcgmkkaagreatdoor", sum := "a5d70ba77bf9d76e774a6fd5e5bc5d4dc36d63d8c361d6c9c578e3155c3215f1", func := "sleuth/sleuthlaw05.SliceFlow", spec := "sliceFlow", unfollowed := true, recurses := true, named := ["strconv.ErrSyntax", "strconv.ErrRange", "internal/strconv.uint64pow10", "math/bits.deBruijn32tab", "math/bits.deBruijn64tab"], loops := true, apart := false, laid := [("math/bits.deBruijn32tab", laid_math_bits_deBruijn32tab), ("math/bits.deBruijn64tab", laid_math_bits_deBruijn64tab), ("internal/strconv.uint64pow10", laid_internal_strconv_uint64pow10), ("strconv.ErrRange", laid_strconv_ErrRange), ("strconv.ErrSyntax", laid_strconv_ErrSyntax)], narrowed := true }
def SliceFlowUptoSaid : Prop := sliceFlowUptoRow.holds Tryz.pinned (OpenSpec.upto sliceFlowSpec)

/-- 'sleuthlaw05.SliceShapes', WHERE WHAT IT READS IS OF BULK AT MOST 1048576: true; the input reads as it did. -/
def sliceShapesUptoRow : OpenClaim := { program := "ytdlndhbkcgmkkaagreatdoor", sum := "a5d70ba77bf9d76e774a6fd5e5bc5d4dc36d63d8c361d6c9c578e3155c3215f1", func := "sleuth/sleuthlaw05.SliceShapes", spec := "sliceShapes", unfollowed := true, recurses := true, named := ["strconv.ErrSyntax", "strconv.ErrRange", "internal/strconv.uint64pow10", "math/bits.deBruijn32tab", "math/bits.deBruijn64tab"], loops := true, apart := false, laid := [("math/bits.deBruijn32tab", laid_math_bits_deBruijn32tab), ("math/bits.deBruijn64tab", laid_math_bits_deBruijn64tab), ("internal/strconv.uint64pow10", laid_internal_strconv_uint64pow10), ("strconv.ErrRange", laid_strconv_ErrRange), ("strconv.ErrSyntax", laid_strconv_ErrSyntax)], narrowed := true }
def SliceShapesUptoSaid : Prop := sliceShapesUptoRow.holds Tryz.pinned (OpenSpec.upto sliceShapesSpec)

/-- 'sleuthlaw05.SliceSets', WHERE WHAT IT READS IS OF BULK AT MOST 1048576: true; the input reads as it did. -/
def sliceSetsUptoRow : OpenClaim := { program := "ytdlndhbkcgmkkaagreatdoor", sum := "a5d70ba77bf9d76e774a6fd5e5bc5d4dc36d63d8c361d6c9c578e3155c3215f1", func := "sleuth/sleuthlaw05.SliceSets", spec := "sliceSets", unfollowed := true, recurses := true, named := ["strconv.ErrSyntax", "strconv.ErrRange", "internal/strconv.uint64pow10", "math/bits.deBruijn32tab", "math/bits.deBruijn64tab"], loops := true, apart := false, laid := [("math/bits.deBruijn32tab", laid_math_bits_deBruijn32tab), ("math/bits.deBruijn64tab", laid_math_bits_deBruijn64tab), ("internal/strconv.uint64pow10", laid_internal_strconv_uint64pow10), ("strconv.ErrRange", laid_strconv_ErrRange), ("strconv.ErrSyntax", laid_strconv_ErrSyntax)], narrowed := true }
def SliceSetsUptoSaid : Prop := sliceSetsUptoRow.holds Tryz.pinned (OpenSpec.upto sliceSetsSpec)

/-- 'sleuthlaw05.SliceFiner', WHERE WHAT IT READS IS OF BULK AT MOST 1048576: true; the input reads as it did. -/
def sliceFinerUptoRow : OpenClaim := { program := "ytdlndhbkcgmkkaagreatdoor", sum := "a5d70ba77bf9d76e774a6fd5e5bc5d4dc36d63d8c361d6c9c578e3155c3215f1", func := "sleuth/sleuthlaw05.SliceFiner", spec := "sliceFiner", unfollowed := true, recurses := true, named := ["strconv.ErrSyntax", "strconv.ErrRange", "internal/strconv.uint64pow10", "math/bits.deBruijn32tab", "math/bits.deBruijn64tab"], loops := true, apart := false, laid := [("math/bits.deBruijn32tab", laid_math_bits_deBruijn32tab), ("math/bits.deBruijn64tab", laid_math_bits_deBruijn64tab), ("internal/strconv.uint64pow10", laid_internal_strconv_uint64pow10), ("strconv.ErrRange", laid_strconv_ErrRange), ("strconv.ErrSyntax", laid_strconv_ErrSyntax)], narrowed := true }
def SliceFinerUptoSaid : Prop := sliceFinerUptoRow.holds Tryz.pinned (OpenSpec.upto sliceFinerSpec)

/-- 'sleuthlaw05.SliceBoth', WHERE WHAT IT READS IS OF BULK AT MOST 1048576: true; the input reads as it did. -/
def sliceBothUptoRow : OpenClaim := { program := "ytdlndhbkcgmkkaagreatdoor", sum := "a5d70ba77bf9d76e774a6fd5e5bc5d4dc36d63d8c361d6c9c578e3155c3215f1", func := "sleuth/sleuthlaw05.SliceBoth", spec := "sliceBoth", unfollowed := true, recurses := true, named := ["strconv.ErrSyntax", "strconv.ErrRange", "internal/strconv.uint64pow10", "math/bits.deBruijn32tab", "math/bits.deBruijn64tab"], loops := true, apart := false, laid := [("math/bits.deBruijn32tab", laid_math_bits_deBruijn32tab), ("math/bits.deBruijn64tab", laid_math_bits_deBruijn64tab), ("internal/strconv.uint64pow10", laid_internal_strconv_uint64pow10), ("strconv.ErrRange", laid_strconv_ErrRange), ("strconv.ErrSyntax", laid_strconv_ErrSyntax)], narrowed := true }
def SliceBothUptoSaid : Prop := sliceBothUptoRow.holds Tryz.pinned (OpenSpec.upto sliceBothSpec)

/-- 'sleuthlaw05.SliceMakes', WHERE WHAT IT READS IS OF BULK AT MOST 1048576: true; the input reads as it did. -/
def sliceMakesUptoRow : OpenClaim := { program := "ytdlndhbkcgmkkaagreatdoor", sum := "a5d70ba77bf9d76e774a6fd5e5bc5d4dc36d63d8c361d6c9c578e3155c3215f1", func := "sleuth/sleuthlaw05.SliceMakes", spec := "sliceMakes", unfollowed := true, recurses := true, named := ["strconv.ErrSyntax", "strconv.ErrRange", "internal/strconv.uint64pow10", "math/bits.deBruijn32tab", "math/bits.deBruijn64tab"], loops := true, apart := false, laid := [("math/bits.deBruijn32tab", laid_math_bits_deBruijn32tab), ("math/bits.deBruijn64tab", laid_math_bits_deBruijn64tab), ("internal/strconv.uint64pow10", laid_internal_strconv_uint64pow10), ("strconv.ErrRange", laid_strconv_ErrRange), ("strconv.ErrSyntax", laid_strconv_ErrSyntax)], narrowed := true }
def SliceMakesUptoSaid : Prop := sliceMakesUptoRow.holds Tryz.pinned (OpenSpec.upto sliceMakesSpec)

/-- 'sleuthlaw05.SliceWhole', WHERE WHAT IT READS IS OF BULK AT MOST 1048576: true; the input reads as it did. -/
def sliceWholeUptoRow : OpenClaim := { program := "ytdlndhbkcgmkkaagreatdoor", sum := "a5d70ba77bf9d76e774a6fd5e5bc5d4dc36d63d8c361d6c9c578e3155c3215f1", func := "sleuth/sleuthlaw05.SliceWhole", spec := "sliceWhole", unfollowed := true, recurses := true, named := ["strconv.ErrSyntax", "strconv.ErrRange", "internal/strconv.uint64pow10", "math/bits.deBruijn32tab", "math/bits.deBruijn64tab"], loops := true, apart := false, laid := [("math/bits.deBruijn32tab", laid_math_bits_deBruijn32tab), ("math/bits.deBruijn64tab", laid_math_bits_deBruijn64tab), ("internal/strconv.uint64pow10", laid_internal_strconv_uint64pow10), ("strconv.ErrRange", laid_strconv_ErrRange), ("strconv.ErrSyntax", laid_strconv_ErrSyntax)], narrowed := true }
def SliceWholeUptoSaid : Prop := sliceWholeUptoRow.holds Tryz.pinned (OpenSpec.upto sliceWholeSpec)

end Rows
end Go.Proofs.YtdlndhbkcgmkkaaGreatDoor
