/-
  NARROWER THAN 'FOR EVERY INPUT', by the rows' own cells (each row's printed sentence says how): FnProofsHold: laid · FnProofRight: laid · FnAbsenceProof: laid · FnProofContent: laid · FnFilesNamed: laid · FnProofOrAbsence: laid · FnWriteBack: laid · FnWriteAt: laid · FnSyncRoot: laid · FnSweepStore: laid · FnWalkTo: laid · FnReadAt: laid · FnNamesAt: laid · FnWriteOrder: laid.
  DERIVED. THE GIVEN ROWS OF THIS SEAT. 14 by the template 'for every input the law returns true; each argument reads behind the call as it read before'; 0 by the template 'total and deterministic' (their statements: YtachfmlfmpaddaaGreatDoorTotals.lean).
  GIVEN WITH THE SEED: the statements are not yours to turn. If you find one false, say at which input.
  Laid BY PROGRAM, IN A SANDBOX (cutbox-rows.mjs): the forced cells as the released guide's own fill.sh prints them over the translation 6289d4114f6298de… (all of the seat's roots in one cut). By AI agents, Wed Nov 11 2026. No macro, syntax, notation, axiom, sorry.
-/
import Derived.Test.YtachfmlfmpaddaaGreatDoorChecked
import GoSem.PinnedTables
import GoSem.Claim
import GoSem.ClaimJoined
import GoSem.ClaimMapViews
import Derived.JoinedTies
import Derived.KernelRfl
namespace Go.Proofs.YtachfmlfmpaddaaGreatDoor
/- THE CELL 'sum', in the pinned program and in every row, IS THE sha256 OF THE DUMP (.gsa) THAT YtachfmlfmpaddaaGreatDoorProg.lean LOADS. Nothing in Lean hashes anything: it is a label: what it is worth is what the hold of that sum in a sandbox is worth. -/
noncomputable def Tryz.pinned : Pinned := { name := "ytachfmlfmpaddaagreatdoor", sum := "6289d4114f6298de4ae062ad1a3c87b7640bd16da04852300548893b1f3e875e", checked := Tryz.checked }
namespace Rows
def none {H : Type} : Left H := { results := [], args := [] }

/- WHAT THE LISTED PACKAGE-LEVEL VARIABLES READ AS WHEN THE CALL BEGINS. Each datum BY PROGRAM (the guide's laid-datum.mjs) off the statement by which the dump's own 'gosem.cut.vars' lays the variable. In a bare row this is a premise. The card (YtachfmlfmpaddaaGreatDoorCards.lean) ties it to the program's text. -/
def laid_math_bits_deBruijn32tab {H : Type} : DataW H := .agg [.lit (.int .u8 0), .lit (.int .u8 1), .lit (.int .u8 28), .lit (.int .u8 2), .lit (.int .u8 29), .lit (.int .u8 14), .lit (.int .u8 24), .lit (.int .u8 3), .lit (.int .u8 30), .lit (.int .u8 22), .lit (.int .u8 20), .lit (.int .u8 15), .lit (.int .u8 25), .lit (.int .u8 17), .lit (.int .u8 4), .lit (.int .u8 8), .lit (.int .u8 31), .lit (.int .u8 27), .lit (.int .u8 13), .lit (.int .u8 23), .lit (.int .u8 21), .lit (.int .u8 19), .lit (.int .u8 16), .lit (.int .u8 7), .lit (.int .u8 26), .lit (.int .u8 12), .lit (.int .u8 18), .lit (.int .u8 6), .lit (.int .u8 11), .lit (.int .u8 5), .lit (.int .u8 10), .lit (.int .u8 9)]
def laid_math_bits_deBruijn64tab {H : Type} : DataW H := .agg [.lit (.int .u8 0), .lit (.int .u8 1), .lit (.int .u8 56), .lit (.int .u8 2), .lit (.int .u8 57), .lit (.int .u8 49), .lit (.int .u8 28), .lit (.int .u8 3), .lit (.int .u8 61), .lit (.int .u8 58), .lit (.int .u8 42), .lit (.int .u8 50), .lit (.int .u8 38), .lit (.int .u8 29), .lit (.int .u8 17), .lit (.int .u8 4), .lit (.int .u8 62), .lit (.int .u8 47), .lit (.int .u8 59), .lit (.int .u8 36), .lit (.int .u8 45), .lit (.int .u8 43), .lit (.int .u8 51), .lit (.int .u8 22), .lit (.int .u8 53), .lit (.int .u8 39), .lit (.int .u8 33), .lit (.int .u8 30), .lit (.int .u8 24), .lit (.int .u8 18), .lit (.int .u8 12), .lit (.int .u8 5), .lit (.int .u8 63), .lit (.int .u8 55), .lit (.int .u8 48), .lit (.int .u8 27), .lit (.int .u8 60), .lit (.int .u8 41), .lit (.int .u8 37), .lit (.int .u8 16), .lit (.int .u8 46), .lit (.int .u8 35), .lit (.int .u8 44), .lit (.int .u8 21), .lit (.int .u8 52), .lit (.int .u8 32), .lit (.int .u8 23), .lit (.int .u8 11), .lit (.int .u8 54), .lit (.int .u8 26), .lit (.int .u8 40), .lit (.int .u8 15), .lit (.int .u8 34), .lit (.int .u8 20), .lit (.int .u8 31), .lit (.int .u8 10), .lit (.int .u8 25), .lit (.int .u8 14), .lit (.int .u8 19), .lit (.int .u8 9), .lit (.int .u8 13), .lit (.int .u8 8), .lit (.int .u8 7), .lit (.int .u8 6)]
def laid_internal_strconv_uint64pow10 {H : Type} : DataW H := .agg [.lit (.int .u64 1), .lit (.int .u64 10), .lit (.int .u64 100), .lit (.int .u64 1000), .lit (.int .u64 10000), .lit (.int .u64 100000), .lit (.int .u64 1000000), .lit (.int .u64 10000000), .lit (.int .u64 100000000), .lit (.int .u64 1000000000), .lit (.int .u64 10000000000), .lit (.int .u64 100000000000), .lit (.int .u64 1000000000000), .lit (.int .u64 10000000000000), .lit (.int .u64 100000000000000), .lit (.int .u64 1000000000000000), .lit (.int .u64 10000000000000000), .lit (.int .u64 100000000000000000), .lit (.int .u64 1000000000000000000), .lit (.int .u64 10000000000000000000)]
def laid_unicode_utf8_acceptRanges {H : Type} : DataW H := .agg [.agg [.lit (.int .u8 128), .lit (.int .u8 191)], .agg [.lit (.int .u8 160), .lit (.int .u8 191)], .agg [.lit (.int .u8 128), .lit (.int .u8 159)], .agg [.lit (.int .u8 144), .lit (.int .u8 191)], .agg [.lit (.int .u8 128), .lit (.int .u8 143)], .agg [.lit (.int .u8 0), .lit (.int .u8 0)], .agg [.lit (.int .u8 0), .lit (.int .u8 0)], .agg [.lit (.int .u8 0), .lit (.int .u8 0)], .agg [.lit (.int .u8 0), .lit (.int .u8 0)], .agg [.lit (.int .u8 0), .lit (.int .u8 0)], .agg [.lit (.int .u8 0), .lit (.int .u8 0)], .agg [.lit (.int .u8 0), .lit (.int .u8 0)], .agg [.lit (.int .u8 0), .lit (.int .u8 0)], .agg [.lit (.int .u8 0), .lit (.int .u8 0)], .agg [.lit (.int .u8 0), .lit (.int .u8 0)], .agg [.lit (.int .u8 0), .lit (.int .u8 0)]]
/-- One of Go's own tables, pinned by name: the form's constant. -/
def laid_unicode_utf8_first : DataW Unit := Go.Pinned.utf8First

/-- 'laws.FnProofsHold': WHATEVER THE INPUT: true; the input reads as it did. -/
def fnProofsHoldSpec : ChangeSpec := { name := "fnProofsHold", fn := fun _ => fun
  | [d] => { results := [.lit (.bool true)], args := [d] }
  | _ => none }
def fnProofsHoldRow : OpenClaim := { program := "ytachfmlfmpaddaagreatdoor", sum := "6289d4114f6298de4ae062ad1a3c87b7640bd16da04852300548893b1f3e875e", func := "loop.example/proofarchive/laws.FnProofsHold", spec := "fnProofsHold", inPlace := ["internal/bytealg.CountString", "internal/bytealg.IndexByteString", "internal/bytealg.IndexString", "internal/abi.NoEscape", "internal/bytealg.MakeNoZero"], unfollowed := true, recurses := true, named := ["unicode/utf8.first", "unicode/utf8.acceptRanges", "internal/bytealg.MaxLen", "internal/strconv.uint64pow10", "math/bits.deBruijn32tab", "math/bits.deBruijn64tab"], apart := false, laid := [("math/bits.deBruijn32tab", laid_math_bits_deBruijn32tab), ("math/bits.deBruijn64tab", laid_math_bits_deBruijn64tab), ("internal/strconv.uint64pow10", laid_internal_strconv_uint64pow10), ("unicode/utf8.acceptRanges", laid_unicode_utf8_acceptRanges), ("unicode/utf8.first", laid_unicode_utf8_first)] }
def FnProofsHoldSaid : Prop := fnProofsHoldRow.holds Tryz.pinned (OpenSpec.ofChange fnProofsHoldSpec)

/-- ITS FALSE NEIGHBOUR: 'it returns false'. Refute it at one input. -/
def fnProofsHoldWrong : ChangeSpec := { name := "fnProofsHold", fn := fun _ => fun
  | [d] => { results := [.lit (.bool false)], args := [d] }
  | _ => none }
def FnProofsHoldWrongFalsely : Prop := fnProofsHoldRow.holds Tryz.pinned (OpenSpec.ofChange fnProofsHoldWrong)

/-- 'laws.FnProofRight': WHATEVER THE INPUT: true; the input reads as it did. -/
def fnProofRightSpec : ChangeSpec := { name := "fnProofRight", fn := fun _ => fun
  | [d] => { results := [.lit (.bool true)], args := [d] }
  | _ => none }
def fnProofRightRow : OpenClaim := { program := "ytachfmlfmpaddaagreatdoor", sum := "6289d4114f6298de4ae062ad1a3c87b7640bd16da04852300548893b1f3e875e", func := "loop.example/proofarchive/laws.FnProofRight", spec := "fnProofRight", inPlace := ["internal/bytealg.CountString", "internal/bytealg.IndexByteString", "internal/bytealg.IndexString", "internal/abi.NoEscape", "internal/bytealg.MakeNoZero"], unfollowed := true, recurses := true, named := ["unicode/utf8.first", "unicode/utf8.acceptRanges", "internal/bytealg.MaxLen", "internal/strconv.uint64pow10", "math/bits.deBruijn32tab", "math/bits.deBruijn64tab"], apart := false, laid := [("math/bits.deBruijn32tab", laid_math_bits_deBruijn32tab), ("math/bits.deBruijn64tab", laid_math_bits_deBruijn64tab), ("internal/strconv.uint64pow10", laid_internal_strconv_uint64pow10), ("unicode/utf8.acceptRanges", laid_unicode_utf8_acceptRanges), ("unicode/utf8.first", laid_unicode_utf8_first)] }
def FnProofRightSaid : Prop := fnProofRightRow.holds Tryz.pinned (OpenSpec.ofChange fnProofRightSpec)

/-- ITS FALSE NEIGHBOUR: 'it returns false'. Refute it at one input. -/
def fnProofRightWrong : ChangeSpec := { name := "fnProofRight", fn := fun _ => fun
  | [d] => { results := [.lit (.bool false)], args := [d] }
  | _ => none }
def FnProofRightWrongFalsely : Prop := fnProofRightRow.holds Tryz.pinned (OpenSpec.ofChange fnProofRightWrong)

/-- 'laws.FnAbsenceProof': WHATEVER THE INPUT: true; the input reads as it did. -/
def fnAbsenceProofSpec : ChangeSpec := { name := "fnAbsenceProof", fn := fun _ => fun
  | [d] => { results := [.lit (.bool true)], args := [d] }
  | _ => none }
def fnAbsenceProofRow : OpenClaim := { program := "ytachfmlfmpaddaagreatdoor", sum := "6289d4114f6298de4ae062ad1a3c87b7640bd16da04852300548893b1f3e875e", func := "loop.example/proofarchive/laws.FnAbsenceProof", spec := "fnAbsenceProof", inPlace := ["internal/bytealg.CountString", "internal/bytealg.IndexByteString", "internal/bytealg.IndexString", "internal/abi.NoEscape", "internal/bytealg.MakeNoZero"], unfollowed := true, recurses := true, named := ["unicode/utf8.first", "unicode/utf8.acceptRanges", "internal/bytealg.MaxLen", "internal/strconv.uint64pow10", "math/bits.deBruijn32tab", "math/bits.deBruijn64tab"], apart := false, laid := [("math/bits.deBruijn32tab", laid_math_bits_deBruijn32tab), ("math/bits.deBruijn64tab", laid_math_bits_deBruijn64tab), ("internal/strconv.uint64pow10", laid_internal_strconv_uint64pow10), ("unicode/utf8.acceptRanges", laid_unicode_utf8_acceptRanges), ("unicode/utf8.first", laid_unicode_utf8_first)] }
def FnAbsenceProofSaid : Prop := fnAbsenceProofRow.holds Tryz.pinned (OpenSpec.ofChange fnAbsenceProofSpec)

/-- ITS FALSE NEIGHBOUR: 'it returns false'. Refute it at one input. -/
def fnAbsenceProofWrong : ChangeSpec := { name := "fnAbsenceProof", fn := fun _ => fun
  | [d] => { results := [.lit (.bool false)], args := [d] }
  | _ => none }
def FnAbsenceProofWrongFalsely : Prop := fnAbsenceProofRow.holds Tryz.pinned (OpenSpec.ofChange fnAbsenceProofWrong)

/-- 'laws.FnProofContent': WHATEVER THE INPUT: true; the input reads as it did. -/
def fnProofContentSpec : ChangeSpec := { name := "fnProofContent", fn := fun _ => fun
  | [d] => { results := [.lit (.bool true)], args := [d] }
  | _ => none }
def fnProofContentRow : OpenClaim := { program := "ytachfmlfmpaddaagreatdoor", sum := "6289d4114f6298de4ae062ad1a3c87b7640bd16da04852300548893b1f3e875e", func := "loop.example/proofarchive/laws.FnProofContent", spec := "fnProofContent", inPlace := ["internal/bytealg.CountString", "internal/bytealg.IndexByteString", "internal/bytealg.IndexString", "internal/abi.NoEscape", "internal/bytealg.MakeNoZero"], unfollowed := true, recurses := true, named := ["unicode/utf8.first", "unicode/utf8.acceptRanges", "internal/bytealg.MaxLen", "internal/strconv.uint64pow10", "math/bits.deBruijn32tab", "math/bits.deBruijn64tab"], apart := false, laid := [("math/bits.deBruijn32tab", laid_math_bits_deBruijn32tab), ("math/bits.deBruijn64tab", laid_math_bits_deBruijn64tab), ("internal/strconv.uint64pow10", laid_internal_strconv_uint64pow10), ("unicode/utf8.acceptRanges", laid_unicode_utf8_acceptRanges), ("unicode/utf8.first", laid_unicode_utf8_first)] }
def FnProofContentSaid : Prop := fnProofContentRow.holds Tryz.pinned (OpenSpec.ofChange fnProofContentSpec)

/-- ITS FALSE NEIGHBOUR: 'it returns false'. Refute it at one input. -/
def fnProofContentWrong : ChangeSpec := { name := "fnProofContent", fn := fun _ => fun
  | [d] => { results := [.lit (.bool false)], args := [d] }
  | _ => none }
def FnProofContentWrongFalsely : Prop := fnProofContentRow.holds Tryz.pinned (OpenSpec.ofChange fnProofContentWrong)

/-- 'laws.FnFilesNamed': WHATEVER THE INPUT: true; the input reads as it did. -/
def fnFilesNamedSpec : ChangeSpec := { name := "fnFilesNamed", fn := fun _ => fun
  | [d] => { results := [.lit (.bool true)], args := [d] }
  | _ => none }
def fnFilesNamedRow : OpenClaim := { program := "ytachfmlfmpaddaagreatdoor", sum := "6289d4114f6298de4ae062ad1a3c87b7640bd16da04852300548893b1f3e875e", func := "loop.example/proofarchive/laws.FnFilesNamed", spec := "fnFilesNamed", inPlace := ["internal/bytealg.IndexByteString", "internal/bytealg.IndexString", "internal/abi.NoEscape", "internal/bytealg.MakeNoZero", "internal/bytealg.CountString"], unfollowed := true, recurses := true, named := ["internal/bytealg.MaxLen", "internal/strconv.uint64pow10", "math/bits.deBruijn32tab", "math/bits.deBruijn64tab", "unicode/utf8.first", "unicode/utf8.acceptRanges"], apart := false, laid := [("math/bits.deBruijn32tab", laid_math_bits_deBruijn32tab), ("math/bits.deBruijn64tab", laid_math_bits_deBruijn64tab), ("internal/strconv.uint64pow10", laid_internal_strconv_uint64pow10), ("unicode/utf8.acceptRanges", laid_unicode_utf8_acceptRanges), ("unicode/utf8.first", laid_unicode_utf8_first)] }
def FnFilesNamedSaid : Prop := fnFilesNamedRow.holds Tryz.pinned (OpenSpec.ofChange fnFilesNamedSpec)

/-- ITS FALSE NEIGHBOUR: 'it returns false'. Refute it at one input. -/
def fnFilesNamedWrong : ChangeSpec := { name := "fnFilesNamed", fn := fun _ => fun
  | [d] => { results := [.lit (.bool false)], args := [d] }
  | _ => none }
def FnFilesNamedWrongFalsely : Prop := fnFilesNamedRow.holds Tryz.pinned (OpenSpec.ofChange fnFilesNamedWrong)

/-- 'laws.FnProofOrAbsence': WHATEVER THE INPUT: true; the input reads as it did. -/
def fnProofOrAbsenceSpec : ChangeSpec := { name := "fnProofOrAbsence", fn := fun _ => fun
  | [d] => { results := [.lit (.bool true)], args := [d] }
  | _ => none }
def fnProofOrAbsenceRow : OpenClaim := { program := "ytachfmlfmpaddaagreatdoor", sum := "6289d4114f6298de4ae062ad1a3c87b7640bd16da04852300548893b1f3e875e", func := "loop.example/proofarchive/laws.FnProofOrAbsence", spec := "fnProofOrAbsence", inPlace := ["internal/bytealg.CountString", "internal/bytealg.IndexByteString", "internal/bytealg.IndexString", "internal/abi.NoEscape", "internal/bytealg.MakeNoZero"], unfollowed := true, recurses := true, named := ["unicode/utf8.first", "unicode/utf8.acceptRanges", "internal/bytealg.MaxLen", "internal/strconv.uint64pow10", "math/bits.deBruijn32tab", "math/bits.deBruijn64tab"], apart := false, laid := [("math/bits.deBruijn32tab", laid_math_bits_deBruijn32tab), ("math/bits.deBruijn64tab", laid_math_bits_deBruijn64tab), ("internal/strconv.uint64pow10", laid_internal_strconv_uint64pow10), ("unicode/utf8.acceptRanges", laid_unicode_utf8_acceptRanges), ("unicode/utf8.first", laid_unicode_utf8_first)] }
def FnProofOrAbsenceSaid : Prop := fnProofOrAbsenceRow.holds Tryz.pinned (OpenSpec.ofChange fnProofOrAbsenceSpec)

/-- ITS FALSE NEIGHBOUR: 'it returns false'. Refute it at one input. -/
def fnProofOrAbsenceWrong : ChangeSpec := { name := "fnProofOrAbsence", fn := fun _ => fun
  | [d] => { results := [.lit (.bool false)], args := [d] }
  | _ => none }
def FnProofOrAbsenceWrongFalsely : Prop := fnProofOrAbsenceRow.holds Tryz.pinned (OpenSpec.ofChange fnProofOrAbsenceWrong)

/-- 'laws.FnWriteBack': WHATEVER THE INPUT: true; the input reads as it did. -/
def fnWriteBackSpec : ChangeSpec := { name := "fnWriteBack", fn := fun _ => fun
  | [d] => { results := [.lit (.bool true)], args := [d] }
  | _ => none }
def fnWriteBackRow : OpenClaim := { program := "ytachfmlfmpaddaagreatdoor", sum := "6289d4114f6298de4ae062ad1a3c87b7640bd16da04852300548893b1f3e875e", func := "loop.example/proofarchive/laws.FnWriteBack", spec := "fnWriteBack", inPlace := ["internal/bytealg.CountString", "internal/bytealg.IndexByteString", "internal/bytealg.IndexString", "internal/abi.NoEscape", "internal/bytealg.MakeNoZero", "slices.overlaps[loop.example/proofarchive/impl.Piece]", "slices.overlaps[loop.example/proofarchive/impl.Entry]"], unfollowed := true, recurses := true, named := ["unicode/utf8.first", "unicode/utf8.acceptRanges", "internal/bytealg.MaxLen", "internal/strconv.uint64pow10", "math/bits.deBruijn32tab", "math/bits.deBruijn64tab"], apart := false, laid := [("math/bits.deBruijn32tab", laid_math_bits_deBruijn32tab), ("math/bits.deBruijn64tab", laid_math_bits_deBruijn64tab), ("internal/strconv.uint64pow10", laid_internal_strconv_uint64pow10), ("unicode/utf8.acceptRanges", laid_unicode_utf8_acceptRanges), ("unicode/utf8.first", laid_unicode_utf8_first)] }
def FnWriteBackSaid : Prop := fnWriteBackRow.holds Tryz.pinned (OpenSpec.ofChange fnWriteBackSpec)

/-- ITS FALSE NEIGHBOUR: 'it returns false'. Refute it at one input. -/
def fnWriteBackWrong : ChangeSpec := { name := "fnWriteBack", fn := fun _ => fun
  | [d] => { results := [.lit (.bool false)], args := [d] }
  | _ => none }
def FnWriteBackWrongFalsely : Prop := fnWriteBackRow.holds Tryz.pinned (OpenSpec.ofChange fnWriteBackWrong)

/-- 'laws.FnWriteAt': WHATEVER THE INPUT: true; the input reads as it did. -/
def fnWriteAtSpec : ChangeSpec := { name := "fnWriteAt", fn := fun _ => fun
  | [d] => { results := [.lit (.bool true)], args := [d] }
  | _ => none }
def fnWriteAtRow : OpenClaim := { program := "ytachfmlfmpaddaagreatdoor", sum := "6289d4114f6298de4ae062ad1a3c87b7640bd16da04852300548893b1f3e875e", func := "loop.example/proofarchive/laws.FnWriteAt", spec := "fnWriteAt", inPlace := ["internal/bytealg.CountString", "internal/bytealg.IndexByteString", "internal/bytealg.IndexString", "internal/abi.NoEscape", "internal/bytealg.MakeNoZero", "slices.overlaps[loop.example/proofarchive/impl.Piece]", "slices.overlaps[loop.example/proofarchive/impl.Entry]"], unfollowed := true, recurses := true, named := ["unicode/utf8.first", "unicode/utf8.acceptRanges", "internal/bytealg.MaxLen", "internal/strconv.uint64pow10", "math/bits.deBruijn32tab", "math/bits.deBruijn64tab"], apart := false, laid := [("math/bits.deBruijn32tab", laid_math_bits_deBruijn32tab), ("math/bits.deBruijn64tab", laid_math_bits_deBruijn64tab), ("internal/strconv.uint64pow10", laid_internal_strconv_uint64pow10), ("unicode/utf8.acceptRanges", laid_unicode_utf8_acceptRanges), ("unicode/utf8.first", laid_unicode_utf8_first)] }
def FnWriteAtSaid : Prop := fnWriteAtRow.holds Tryz.pinned (OpenSpec.ofChange fnWriteAtSpec)

/-- ITS FALSE NEIGHBOUR: 'it returns false'. Refute it at one input. -/
def fnWriteAtWrong : ChangeSpec := { name := "fnWriteAt", fn := fun _ => fun
  | [d] => { results := [.lit (.bool false)], args := [d] }
  | _ => none }
def FnWriteAtWrongFalsely : Prop := fnWriteAtRow.holds Tryz.pinned (OpenSpec.ofChange fnWriteAtWrong)

/-- 'laws.FnSyncRoot': WHATEVER THE INPUT: true; the input reads as it did. -/
def fnSyncRootSpec : ChangeSpec := { name := "fnSyncRoot", fn := fun _ => fun
  | [d] => { results := [.lit (.bool true)], args := [d] }
  | _ => none }
def fnSyncRootRow : OpenClaim := { program := "ytachfmlfmpaddaagreatdoor", sum := "6289d4114f6298de4ae062ad1a3c87b7640bd16da04852300548893b1f3e875e", func := "loop.example/proofarchive/laws.FnSyncRoot", spec := "fnSyncRoot", inPlace := ["internal/bytealg.IndexByteString", "internal/bytealg.IndexString", "slices.overlaps[loop.example/proofarchive/impl.Piece]", "internal/abi.NoEscape", "internal/bytealg.MakeNoZero", "internal/bytealg.CountString"], unfollowed := true, recurses := true, named := ["internal/bytealg.MaxLen", "internal/strconv.uint64pow10", "math/bits.deBruijn32tab", "math/bits.deBruijn64tab", "unicode/utf8.first", "unicode/utf8.acceptRanges"], apart := false, laid := [("math/bits.deBruijn32tab", laid_math_bits_deBruijn32tab), ("math/bits.deBruijn64tab", laid_math_bits_deBruijn64tab), ("internal/strconv.uint64pow10", laid_internal_strconv_uint64pow10), ("unicode/utf8.acceptRanges", laid_unicode_utf8_acceptRanges), ("unicode/utf8.first", laid_unicode_utf8_first)] }
def FnSyncRootSaid : Prop := fnSyncRootRow.holds Tryz.pinned (OpenSpec.ofChange fnSyncRootSpec)

/-- ITS FALSE NEIGHBOUR: 'it returns false'. Refute it at one input. -/
def fnSyncRootWrong : ChangeSpec := { name := "fnSyncRoot", fn := fun _ => fun
  | [d] => { results := [.lit (.bool false)], args := [d] }
  | _ => none }
def FnSyncRootWrongFalsely : Prop := fnSyncRootRow.holds Tryz.pinned (OpenSpec.ofChange fnSyncRootWrong)

/-- 'laws.FnSweepStore': WHATEVER THE INPUT: true; the input reads as it did. -/
def fnSweepStoreSpec : ChangeSpec := { name := "fnSweepStore", fn := fun _ => fun
  | [d] => { results := [.lit (.bool true)], args := [d] }
  | _ => none }
def fnSweepStoreRow : OpenClaim := { program := "ytachfmlfmpaddaagreatdoor", sum := "6289d4114f6298de4ae062ad1a3c87b7640bd16da04852300548893b1f3e875e", func := "loop.example/proofarchive/laws.FnSweepStore", spec := "fnSweepStore", inPlace := ["internal/bytealg.IndexByteString", "internal/bytealg.IndexString", "internal/abi.NoEscape", "internal/bytealg.MakeNoZero", "internal/bytealg.CountString"], unfollowed := true, recurses := true, named := ["internal/bytealg.MaxLen", "internal/strconv.uint64pow10", "math/bits.deBruijn32tab", "math/bits.deBruijn64tab", "unicode/utf8.first", "unicode/utf8.acceptRanges"], apart := false, laid := [("math/bits.deBruijn32tab", laid_math_bits_deBruijn32tab), ("math/bits.deBruijn64tab", laid_math_bits_deBruijn64tab), ("internal/strconv.uint64pow10", laid_internal_strconv_uint64pow10), ("unicode/utf8.acceptRanges", laid_unicode_utf8_acceptRanges), ("unicode/utf8.first", laid_unicode_utf8_first)] }
def FnSweepStoreSaid : Prop := fnSweepStoreRow.holds Tryz.pinned (OpenSpec.ofChange fnSweepStoreSpec)

/-- ITS FALSE NEIGHBOUR: 'it returns false'. Refute it at one input. -/
def fnSweepStoreWrong : ChangeSpec := { name := "fnSweepStore", fn := fun _ => fun
  | [d] => { results := [.lit (.bool false)], args := [d] }
  | _ => none }
def FnSweepStoreWrongFalsely : Prop := fnSweepStoreRow.holds Tryz.pinned (OpenSpec.ofChange fnSweepStoreWrong)

/-- 'laws.FnWalkTo': WHATEVER THE INPUT: true; the input reads as it did. -/
def fnWalkToSpec : ChangeSpec := { name := "fnWalkTo", fn := fun _ => fun
  | [d] => { results := [.lit (.bool true)], args := [d] }
  | _ => none }
def fnWalkToRow : OpenClaim := { program := "ytachfmlfmpaddaagreatdoor", sum := "6289d4114f6298de4ae062ad1a3c87b7640bd16da04852300548893b1f3e875e", func := "loop.example/proofarchive/laws.FnWalkTo", spec := "fnWalkTo", inPlace := ["internal/bytealg.CountString", "internal/bytealg.IndexByteString", "internal/bytealg.IndexString", "internal/abi.NoEscape", "internal/bytealg.MakeNoZero"], unfollowed := true, recurses := true, named := ["unicode/utf8.first", "unicode/utf8.acceptRanges", "internal/bytealg.MaxLen", "internal/strconv.uint64pow10", "math/bits.deBruijn32tab", "math/bits.deBruijn64tab"], apart := false, laid := [("math/bits.deBruijn32tab", laid_math_bits_deBruijn32tab), ("math/bits.deBruijn64tab", laid_math_bits_deBruijn64tab), ("internal/strconv.uint64pow10", laid_internal_strconv_uint64pow10), ("unicode/utf8.acceptRanges", laid_unicode_utf8_acceptRanges), ("unicode/utf8.first", laid_unicode_utf8_first)] }
def FnWalkToSaid : Prop := fnWalkToRow.holds Tryz.pinned (OpenSpec.ofChange fnWalkToSpec)

/-- ITS FALSE NEIGHBOUR: 'it returns false'. Refute it at one input. -/
def fnWalkToWrong : ChangeSpec := { name := "fnWalkTo", fn := fun _ => fun
  | [d] => { results := [.lit (.bool false)], args := [d] }
  | _ => none }
def FnWalkToWrongFalsely : Prop := fnWalkToRow.holds Tryz.pinned (OpenSpec.ofChange fnWalkToWrong)

/-- 'laws.FnReadAt': WHATEVER THE INPUT: true; the input reads as it did. -/
def fnReadAtSpec : ChangeSpec := { name := "fnReadAt", fn := fun _ => fun
  | [d] => { results := [.lit (.bool true)], args := [d] }
  | _ => none }
def fnReadAtRow : OpenClaim := { program := "ytachfmlfmpaddaagreatdoor", sum := "6289d4114f6298de4ae062ad1a3c87b7640bd16da04852300548893b1f3e875e", func := "loop.example/proofarchive/laws.FnReadAt", spec := "fnReadAt", inPlace := ["internal/bytealg.CountString", "internal/bytealg.IndexByteString", "internal/bytealg.IndexString", "internal/abi.NoEscape", "internal/bytealg.MakeNoZero"], unfollowed := true, recurses := true, named := ["unicode/utf8.first", "unicode/utf8.acceptRanges", "internal/bytealg.MaxLen", "internal/strconv.uint64pow10", "math/bits.deBruijn32tab", "math/bits.deBruijn64tab"], apart := false, laid := [("math/bits.deBruijn32tab", laid_math_bits_deBruijn32tab), ("math/bits.deBruijn64tab", laid_math_bits_deBruijn64tab), ("internal/strconv.uint64pow10", laid_internal_strconv_uint64pow10), ("unicode/utf8.acceptRanges", laid_unicode_utf8_acceptRanges), ("unicode/utf8.first", laid_unicode_utf8_first)] }
def FnReadAtSaid : Prop := fnReadAtRow.holds Tryz.pinned (OpenSpec.ofChange fnReadAtSpec)

/-- ITS FALSE NEIGHBOUR: 'it returns false'. Refute it at one input. -/
def fnReadAtWrong : ChangeSpec := { name := "fnReadAt", fn := fun _ => fun
  | [d] => { results := [.lit (.bool false)], args := [d] }
  | _ => none }
def FnReadAtWrongFalsely : Prop := fnReadAtRow.holds Tryz.pinned (OpenSpec.ofChange fnReadAtWrong)

/-- 'laws.FnNamesAt': WHATEVER THE INPUT: true; the input reads as it did. -/
def fnNamesAtSpec : ChangeSpec := { name := "fnNamesAt", fn := fun _ => fun
  | [d] => { results := [.lit (.bool true)], args := [d] }
  | _ => none }
def fnNamesAtRow : OpenClaim := { program := "ytachfmlfmpaddaagreatdoor", sum := "6289d4114f6298de4ae062ad1a3c87b7640bd16da04852300548893b1f3e875e", func := "loop.example/proofarchive/laws.FnNamesAt", spec := "fnNamesAt", inPlace := ["internal/bytealg.CountString", "internal/bytealg.IndexByteString", "internal/bytealg.IndexString", "internal/abi.NoEscape", "internal/bytealg.MakeNoZero"], unfollowed := true, recurses := true, named := ["unicode/utf8.first", "unicode/utf8.acceptRanges", "internal/bytealg.MaxLen", "internal/strconv.uint64pow10", "math/bits.deBruijn32tab", "math/bits.deBruijn64tab"], apart := false, laid := [("math/bits.deBruijn32tab", laid_math_bits_deBruijn32tab), ("math/bits.deBruijn64tab", laid_math_bits_deBruijn64tab), ("internal/strconv.uint64pow10", laid_internal_strconv_uint64pow10), ("unicode/utf8.acceptRanges", laid_unicode_utf8_acceptRanges), ("unicode/utf8.first", laid_unicode_utf8_first)] }
def FnNamesAtSaid : Prop := fnNamesAtRow.holds Tryz.pinned (OpenSpec.ofChange fnNamesAtSpec)

/-- ITS FALSE NEIGHBOUR: 'it returns false'. Refute it at one input. -/
def fnNamesAtWrong : ChangeSpec := { name := "fnNamesAt", fn := fun _ => fun
  | [d] => { results := [.lit (.bool false)], args := [d] }
  | _ => none }
def FnNamesAtWrongFalsely : Prop := fnNamesAtRow.holds Tryz.pinned (OpenSpec.ofChange fnNamesAtWrong)

/-- 'laws.FnWriteOrder': WHATEVER THE INPUT: true; the input reads as it did. -/
def fnWriteOrderSpec : ChangeSpec := { name := "fnWriteOrder", fn := fun _ => fun
  | [d] => { results := [.lit (.bool true)], args := [d] }
  | _ => none }
def fnWriteOrderRow : OpenClaim := { program := "ytachfmlfmpaddaagreatdoor", sum := "6289d4114f6298de4ae062ad1a3c87b7640bd16da04852300548893b1f3e875e", func := "loop.example/proofarchive/laws.FnWriteOrder", spec := "fnWriteOrder", inPlace := ["internal/bytealg.CountString", "internal/bytealg.IndexByteString", "internal/bytealg.IndexString", "internal/abi.NoEscape", "internal/bytealg.MakeNoZero", "slices.overlaps[loop.example/proofarchive/impl.Piece]", "slices.overlaps[loop.example/proofarchive/impl.Entry]"], unfollowed := true, recurses := true, named := ["unicode/utf8.first", "unicode/utf8.acceptRanges", "internal/bytealg.MaxLen", "internal/strconv.uint64pow10", "math/bits.deBruijn32tab", "math/bits.deBruijn64tab"], apart := false, laid := [("math/bits.deBruijn32tab", laid_math_bits_deBruijn32tab), ("math/bits.deBruijn64tab", laid_math_bits_deBruijn64tab), ("internal/strconv.uint64pow10", laid_internal_strconv_uint64pow10), ("unicode/utf8.acceptRanges", laid_unicode_utf8_acceptRanges), ("unicode/utf8.first", laid_unicode_utf8_first)] }
def FnWriteOrderSaid : Prop := fnWriteOrderRow.holds Tryz.pinned (OpenSpec.ofChange fnWriteOrderSpec)

/-- ITS FALSE NEIGHBOUR: 'it returns false'. Refute it at one input. -/
def fnWriteOrderWrong : ChangeSpec := { name := "fnWriteOrder", fn := fun _ => fun
  | [d] => { results := [.lit (.bool false)], args := [d] }
  | _ => none }
def FnWriteOrderWrongFalsely : Prop := fnWriteOrderRow.holds Tryz.pinned (OpenSpec.ofChange fnWriteOrderWrong)

/- THE SECOND FORM. 'bulk': how many values and letters a reading holds, each counted each time it is reached (what is shared counts as often as it is met; a slice's spare places count too). A statement '..UptoSaid' is the law's where the arguments, and the package variables that the reading takes, are together of bulk at most 1048576: NARROWER than '..Said'. Prove '..Said' where nothing that the law and all that it calls make is longer than what came in: it says more and counts as full. Else prove '..UptoSaid'. A law counts once. -/
mutual
def uptoBulk {H : Type} : DataW H → Nat
  | .lit (.string bytes) => bytes.length + 1
  | .lit _ => 1
  | .nil => 1
  | .ptr d => uptoBulk d + 1
  | .slice elems spare => uptoBulkAll elems + uptoBulkAll spare + 1
  | .agg parts => uptoBulkAll parts + 1
  | .iface _ d => uptoBulk d + 1
  | .map entries => uptoBulkEntries entries + 1
  | .held _ => 1
def uptoBulkAll {H : Type} : List (DataW H) → Nat
  | [] => 0
  | d :: r => uptoBulk d + uptoBulkAll r
def uptoBulkEntries {H : Type} : List (Lit × DataW H) → Nat
  | [] => 0
  | x :: r => uptoBulkEntry x + uptoBulkEntries r
def uptoBulkEntry {H : Type} : Lit × DataW H → Nat
  | (.string bytes, d) => bytes.length + uptoBulk d + 1
  | (_, d) => uptoBulk d + 1
 end
def uptoSmall : (H : Type) → List (DataW H) → Bool := fun _ ds => decide (uptoBulkAll ds ≤ 1048576)
def OpenSpec.upto (s : _root_.Go.ChangeSpec) : _root_.Go.OpenSpec := { _root_.Go.OpenSpec.ofChange s with cond := some uptoSmall }

/-- 'laws.FnProofsHold', WHERE WHAT IT READS IS OF BULK AT MOST 1048576: true; the input reads as it did. -/
def fnProofsHoldUptoRow : OpenClaim := { program := "ytachfmlfmpaddaagreatdoor", sum := "6289d4114f6298de4ae062ad1a3c87b7640bd16da04852300548893b1f3e875e", func := "loop.example/proofarchive/laws.FnProofsHold", spec := "fnProofsHold", inPlace := ["internal/bytealg.CountString", "internal/bytealg.IndexByteString", "internal/bytealg.IndexString", "internal/abi.NoEscape", "internal/bytealg.MakeNoZero"], unfollowed := true, recurses := true, named := ["unicode/utf8.first", "unicode/utf8.acceptRanges", "internal/bytealg.MaxLen", "internal/strconv.uint64pow10", "math/bits.deBruijn32tab", "math/bits.deBruijn64tab"], apart := false, laid := [("math/bits.deBruijn32tab", laid_math_bits_deBruijn32tab), ("math/bits.deBruijn64tab", laid_math_bits_deBruijn64tab), ("internal/strconv.uint64pow10", laid_internal_strconv_uint64pow10), ("unicode/utf8.acceptRanges", laid_unicode_utf8_acceptRanges), ("unicode/utf8.first", laid_unicode_utf8_first)], narrowed := true }
def FnProofsHoldUptoSaid : Prop := fnProofsHoldUptoRow.holds Tryz.pinned (OpenSpec.upto fnProofsHoldSpec)

/-- 'laws.FnProofRight', WHERE WHAT IT READS IS OF BULK AT MOST 1048576: true; the input reads as it did. -/
def fnProofRightUptoRow : OpenClaim := { program := "ytachfmlfmpaddaagreatdoor", sum := "6289d4114f6298de4ae062ad1a3c87b7640bd16da04852300548893b1f3e875e", func := "loop.example/proofarchive/laws.FnProofRight", spec := "fnProofRight", inPlace := ["internal/bytealg.CountString", "internal/bytealg.IndexByteString", "internal/bytealg.IndexString", "internal/abi.NoEscape", "internal/bytealg.MakeNoZero"], unfollowed := true, recurses := true, named := ["unicode/utf8.first", "unicode/utf8.acceptRanges", "internal/bytealg.MaxLen", "internal/strconv.uint64pow10", "math/bits.deBruijn32tab", "math/bits.deBruijn64tab"], apart := false, laid := [("math/bits.deBruijn32tab", laid_math_bits_deBruijn32tab), ("math/bits.deBruijn64tab", laid_math_bits_deBruijn64tab), ("internal/strconv.uint64pow10", laid_internal_strconv_uint64pow10), ("unicode/utf8.acceptRanges", laid_unicode_utf8_acceptRanges), ("unicode/utf8.first", laid_unicode_utf8_first)], narrowed := true }
def FnProofRightUptoSaid : Prop := fnProofRightUptoRow.holds Tryz.pinned (OpenSpec.upto fnProofRightSpec)

/-- 'laws.FnAbsenceProof', WHERE WHAT IT READS IS OF BULK AT MOST 1048576: true; the input reads as it did. -/
def fnAbsenceProofUptoRow : OpenClaim := { program := "ytachfmlfmpaddaagreatdoor", sum := "6289d4114f6298de4ae062ad1a3c87b7640bd16da04852300548893b1f3e875e", func := "loop.example/proofarchive/laws.FnAbsenceProof", spec := "fnAbsenceProof", inPlace := ["internal/bytealg.CountString", "internal/bytealg.IndexByteString", "internal/bytealg.IndexString", "internal/abi.NoEscape", "internal/bytealg.MakeNoZero"], unfollowed := true, recurses := true, named := ["unicode/utf8.first", "unicode/utf8.acceptRanges", "internal/bytealg.MaxLen", "internal/strconv.uint64pow10", "math/bits.deBruijn32tab", "math/bits.deBruijn64tab"], apart := false, laid := [("math/bits.deBruijn32tab", laid_math_bits_deBruijn32tab), ("math/bits.deBruijn64tab", laid_math_bits_deBruijn64tab), ("internal/strconv.uint64pow10", laid_internal_strconv_uint64pow10), ("unicode/utf8.acceptRanges", laid_unicode_utf8_acceptRanges), ("unicode/utf8.first", laid_unicode_utf8_first)], narrowed := true }
def FnAbsenceProofUptoSaid : Prop := fnAbsenceProofUptoRow.holds Tryz.pinned (OpenSpec.upto fnAbsenceProofSpec)

/-- 'laws.FnProofContent', WHERE WHAT IT READS IS OF BULK AT MOST 1048576: true; the input reads as it did. -/
def fnProofContentUptoRow : OpenClaim := { program := "ytachfmlfmpaddaagreatdoor", sum := "6289d4114f6298de4ae062ad1a3c87b7640bd16da04852300548893b1f3e875e", func := "loop.example/proofarchive/laws.FnProofContent", spec := "fnProofContent", inPlace := ["internal/bytealg.CountString", "internal/bytealg.IndexByteString", "internal/bytealg.IndexString", "internal/abi.NoEscape", "internal/bytealg.MakeNoZero"], unfollowed := true, recurses := true, named := ["unicode/utf8.first", "unicode/utf8.acceptRanges", "internal/bytealg.MaxLen", "internal/strconv.uint64pow10", "math/bits.deBruijn32tab", "math/bits.deBruijn64tab"], apart := false, laid := [("math/bits.deBruijn32tab", laid_math_bits_deBruijn32tab), ("math/bits.deBruijn64tab", laid_math_bits_deBruijn64tab), ("internal/strconv.uint64pow10", laid_internal_strconv_uint64pow10), ("unicode/utf8.acceptRanges", laid_unicode_utf8_acceptRanges), ("unicode/utf8.first", laid_unicode_utf8_first)], narrowed := true }
def FnProofContentUptoSaid : Prop := fnProofContentUptoRow.holds Tryz.pinned (OpenSpec.upto fnProofContentSpec)

/-- 'laws.FnFilesNamed', WHERE WHAT IT READS IS OF BULK AT MOST 1048576: true; the input reads as it did. -/
def fnFilesNamedUptoRow : OpenClaim := { program := "ytachfmlfmpaddaagreatdoor", sum := "6289d4114f6298de4ae062ad1a3c87b7640bd16da04852300548893b1f3e875e", func := "loop.example/proofarchive/laws.FnFilesNamed", spec := "fnFilesNamed", inPlace := ["internal/bytealg.IndexByteString", "internal/bytealg.IndexString", "internal/abi.NoEscape", "internal/bytealg.MakeNoZero", "internal/bytealg.CountString"], unfollowed := true, recurses := true, named := ["internal/bytealg.MaxLen", "internal/strconv.uint64pow10", "math/bits.deBruijn32tab", "math/bits.deBruijn64tab", "unicode/utf8.first", "unicode/utf8.acceptRanges"], apart := false, laid := [("math/bits.deBruijn32tab", laid_math_bits_deBruijn32tab), ("math/bits.deBruijn64tab", laid_math_bits_deBruijn64tab), ("internal/strconv.uint64pow10", laid_internal_strconv_uint64pow10), ("unicode/utf8.acceptRanges", laid_unicode_utf8_acceptRanges), ("unicode/utf8.first", laid_unicode_utf8_first)], narrowed := true }
def FnFilesNamedUptoSaid : Prop := fnFilesNamedUptoRow.holds Tryz.pinned (OpenSpec.upto fnFilesNamedSpec)

/-- 'laws.FnProofOrAbsence', WHERE WHAT IT READS IS OF BULK AT MOST 1048576: true; the input reads as it did. -/
def fnProofOrAbsenceUptoRow : OpenClaim := { program := "ytachfmlfmpaddaagreatdoor", sum := "6289d4114f6298de4ae062ad1a3c87b7640bd16da04852300548893b1f3e875e", func := "loop.example/proofarchive/laws.FnProofOrAbsence", spec := "fnProofOrAbsence", inPlace := ["internal/bytealg.CountString", "internal/bytealg.IndexByteString", "internal/bytealg.IndexString", "internal/abi.NoEscape", "internal/bytealg.MakeNoZero"], unfollowed := true, recurses := true, named := ["unicode/utf8.first", "unicode/utf8.acceptRanges", "internal/bytealg.MaxLen", "internal/strconv.uint64pow10", "math/bits.deBruijn32tab", "math/bits.deBruijn64tab"], apart := false, laid := [("math/bits.deBruijn32tab", laid_math_bits_deBruijn32tab), ("math/bits.deBruijn64tab", laid_math_bits_deBruijn64tab), ("internal/strconv.uint64pow10", laid_internal_strconv_uint64pow10), ("unicode/utf8.acceptRanges", laid_unicode_utf8_acceptRanges), ("unicode/utf8.first", laid_unicode_utf8_first)], narrowed := true }
def FnProofOrAbsenceUptoSaid : Prop := fnProofOrAbsenceUptoRow.holds Tryz.pinned (OpenSpec.upto fnProofOrAbsenceSpec)

/-- 'laws.FnWriteBack', WHERE WHAT IT READS IS OF BULK AT MOST 1048576: true; the input reads as it did. -/
def fnWriteBackUptoRow : OpenClaim := { program := "ytachfmlfmpaddaagreatdoor", sum := "6289d4114f6298de4ae062ad1a3c87b7640bd16da04852300548893b1f3e875e", func := "loop.example/proofarchive/laws.FnWriteBack", spec := "fnWriteBack", inPlace := ["internal/bytealg.CountString", "internal/bytealg.IndexByteString", "internal/bytealg.IndexString", "internal/abi.NoEscape", "internal/bytealg.MakeNoZero", "slices.overlaps[loop.example/proofarchive/impl.Piece]", "slices.overlaps[loop.example/proofarchive/impl.Entry]"], unfollowed := true, recurses := true, named := ["unicode/utf8.first", "unicode/utf8.acceptRanges", "internal/bytealg.MaxLen", "internal/strconv.uint64pow10", "math/bits.deBruijn32tab", "math/bits.deBruijn64tab"], apart := false, laid := [("math/bits.deBruijn32tab", laid_math_bits_deBruijn32tab), ("math/bits.deBruijn64tab", laid_math_bits_deBruijn64tab), ("internal/strconv.uint64pow10", laid_internal_strconv_uint64pow10), ("unicode/utf8.acceptRanges", laid_unicode_utf8_acceptRanges), ("unicode/utf8.first", laid_unicode_utf8_first)], narrowed := true }
def FnWriteBackUptoSaid : Prop := fnWriteBackUptoRow.holds Tryz.pinned (OpenSpec.upto fnWriteBackSpec)

/-- 'laws.FnWriteAt', WHERE WHAT IT READS IS OF BULK AT MOST 1048576: true; the input reads as it did. -/
def fnWriteAtUptoRow : OpenClaim := { program := "ytachfmlfmpaddaagreatdoor", sum := "6289d4114f6298de4ae062ad1a3c87b7640bd16da04852300548893b1f3e875e", func := "loop.example/proofarchive/laws.FnWriteAt", spec := "fnWriteAt", inPlace := ["internal/bytealg.CountString", "internal/bytealg.IndexByteString", "internal/bytealg.IndexString", "internal/abi.NoEscape", "internal/bytealg.MakeNoZero", "slices.overlaps[loop.example/proofarchive/impl.Piece]", "slices.overlaps[loop.example/proofarchive/impl.Entry]"], unfollowed := true, recurses := true, named := ["unicode/utf8.first", "unicode/utf8.acceptRanges", "internal/bytealg.MaxLen", "internal/strconv.uint64pow10", "math/bits.deBruijn32tab", "math/bits.deBruijn64tab"], apart := false, laid := [("math/bits.deBruijn32tab", laid_math_bits_deBruijn32tab), ("math/bits.deBruijn64tab", laid_math_bits_deBruijn64tab), ("internal/strconv.uint64pow10", laid_internal_strconv_uint64pow10), ("unicode/utf8.acceptRanges", laid_unicode_utf8_acceptRanges), ("unicode/utf8.first", laid_unicode_utf8_first)], narrowed := true }
def FnWriteAtUptoSaid : Prop := fnWriteAtUptoRow.holds Tryz.pinned (OpenSpec.upto fnWriteAtSpec)

/-- 'laws.FnSyncRoot', WHERE WHAT IT READS IS OF BULK AT MOST 1048576: true; the input reads as it did. -/
def fnSyncRootUptoRow : OpenClaim := { program := "ytachfmlfmpaddaagreatdoor", sum := "6289d4114f6298de4ae062ad1a3c87b7640bd16da04852300548893b1f3e875e", func := "loop.example/proofarchive/laws.FnSyncRoot", spec := "fnSyncRoot", inPlace := ["internal/bytealg.IndexByteString", "internal/bytealg.IndexString", "slices.overlaps[loop.example/proofarchive/impl.Piece]", "internal/abi.NoEscape", "internal/bytealg.MakeNoZero", "internal/bytealg.CountString"], unfollowed := true, recurses := true, named := ["internal/bytealg.MaxLen", "internal/strconv.uint64pow10", "math/bits.deBruijn32tab", "math/bits.deBruijn64tab", "unicode/utf8.first", "unicode/utf8.acceptRanges"], apart := false, laid := [("math/bits.deBruijn32tab", laid_math_bits_deBruijn32tab), ("math/bits.deBruijn64tab", laid_math_bits_deBruijn64tab), ("internal/strconv.uint64pow10", laid_internal_strconv_uint64pow10), ("unicode/utf8.acceptRanges", laid_unicode_utf8_acceptRanges), ("unicode/utf8.first", laid_unicode_utf8_first)], narrowed := true }
def FnSyncRootUptoSaid : Prop := fnSyncRootUptoRow.holds Tryz.pinned (OpenSpec.upto fnSyncRootSpec)

/-- 'laws.FnSweepStore', WHERE WHAT IT READS IS OF BULK AT MOST 1048576: true; the input reads as it did. -/
def fnSweepStoreUptoRow : OpenClaim := { program := "ytachfmlfmpaddaagreatdoor", sum := "6289d4114f6298de4ae062ad1a3c87b7640bd16da04852300548893b1f3e875e", func := "loop.example/proofarchive/laws.FnSweepStore", spec := "fnSweepStore", inPlace := ["internal/bytealg.IndexByteString", "internal/bytealg.IndexString", "internal/abi.NoEscape", "internal/bytealg.MakeNoZero", "internal/bytealg.CountString"], unfollowed := true, recurses := true, named := ["internal/bytealg.MaxLen", "internal/strconv.uint64pow10", "math/bits.deBruijn32tab", "math/bits.deBruijn64tab", "unicode/utf8.first", "unicode/utf8.acceptRanges"], apart := false, laid := [("math/bits.deBruijn32tab", laid_math_bits_deBruijn32tab), ("math/bits.deBruijn64tab", laid_math_bits_deBruijn64tab), ("internal/strconv.uint64pow10", laid_internal_strconv_uint64pow10), ("unicode/utf8.acceptRanges", laid_unicode_utf8_acceptRanges), ("unicode/utf8.first", laid_unicode_utf8_first)], narrowed := true }
def FnSweepStoreUptoSaid : Prop := fnSweepStoreUptoRow.holds Tryz.pinned (OpenSpec.upto fnSweepStoreSpec)

/-- 'laws.FnWalkTo', WHERE WHAT IT READS IS OF BULK AT MOST 1048576: true; the input reads as it did. -/
def fnWalkToUptoRow : OpenClaim := { program := "ytachfmlfmpaddaagreatdoor", sum := "6289d4114f6298de4ae062ad1a3c87b7640bd16da04852300548893b1f3e875e", func := "loop.example/proofarchive/laws.FnWalkTo", spec := "fnWalkTo", inPlace := ["internal/bytealg.CountString", "internal/bytealg.IndexByteString", "internal/bytealg.IndexString", "internal/abi.NoEscape", "internal/bytealg.MakeNoZero"], unfollowed := true, recurses := true, named := ["unicode/utf8.first", "unicode/utf8.acceptRanges", "internal/bytealg.MaxLen", "internal/strconv.uint64pow10", "math/bits.deBruijn32tab", "math/bits.deBruijn64tab"], apart := false, laid := [("math/bits.deBruijn32tab", laid_math_bits_deBruijn32tab), ("math/bits.deBruijn64tab", laid_math_bits_deBruijn64tab), ("internal/strconv.uint64pow10", laid_internal_strconv_uint64pow10), ("unicode/utf8.acceptRanges", laid_unicode_utf8_acceptRanges), ("unicode/utf8.first", laid_unicode_utf8_first)], narrowed := true }
def FnWalkToUptoSaid : Prop := fnWalkToUptoRow.holds Tryz.pinned (OpenSpec.upto fnWalkToSpec)

/-- 'laws.FnReadAt', WHERE WHAT IT READS IS OF BULK AT MOST 1048576: true; the input reads as it did. -/
def fnReadAtUptoRow : OpenClaim := { program := "ytachfmlfmpaddaagreatdoor", sum := "6289d4114f6298de4ae062ad1a3c87b7640bd16da04852300548893b1f3e875e", func := "loop.example/proofarchive/laws.FnReadAt", spec := "fnReadAt", inPlace := ["internal/bytealg.CountString", "internal/bytealg.IndexByteString", "internal/bytealg.IndexString", "internal/abi.NoEscape", "internal/bytealg.MakeNoZero"], unfollowed := true, recurses := true, named := ["unicode/utf8.first", "unicode/utf8.acceptRanges", "internal/bytealg.MaxLen", "internal/strconv.uint64pow10", "math/bits.deBruijn32tab", "math/bits.deBruijn64tab"], apart := false, laid := [("math/bits.deBruijn32tab", laid_math_bits_deBruijn32tab), ("math/bits.deBruijn64tab", laid_math_bits_deBruijn64tab), ("internal/strconv.uint64pow10", laid_internal_strconv_uint64pow10), ("unicode/utf8.acceptRanges", laid_unicode_utf8_acceptRanges), ("unicode/utf8.first", laid_unicode_utf8_first)], narrowed := true }
def FnReadAtUptoSaid : Prop := fnReadAtUptoRow.holds Tryz.pinned (OpenSpec.upto fnReadAtSpec)

/-- 'laws.FnNamesAt', WHERE WHAT IT READS IS OF BULK AT MOST 1048576: true; the input reads as it did. -/
def fnNamesAtUptoRow : OpenClaim := { program := "ytachfmlfmpaddaagreatdoor", sum := "6289d4114f6298de4ae062ad1a3c87b7640bd16da04852300548893b1f3e875e", func := "loop.example/proofarchive/laws.FnNamesAt", spec := "fnNamesAt", inPlace := ["internal/bytealg.CountString", "internal/bytealg.IndexByteString", "internal/bytealg.IndexString", "internal/abi.NoEscape", "internal/bytealg.MakeNoZero"], unfollowed := true, recurses := true, named := ["unicode/utf8.first", "unicode/utf8.acceptRanges", "internal/bytealg.MaxLen", "internal/strconv.uint64pow10", "math/bits.deBruijn32tab", "math/bits.deBruijn64tab"], apart := false, laid := [("math/bits.deBruijn32tab", laid_math_bits_deBruijn32tab), ("math/bits.deBruijn64tab", laid_math_bits_deBruijn64tab), ("internal/strconv.uint64pow10", laid_internal_strconv_uint64pow10), ("unicode/utf8.acceptRanges", laid_unicode_utf8_acceptRanges), ("unicode/utf8.first", laid_unicode_utf8_first)], narrowed := true }
def FnNamesAtUptoSaid : Prop := fnNamesAtUptoRow.holds Tryz.pinned (OpenSpec.upto fnNamesAtSpec)

/-- 'laws.FnWriteOrder', WHERE WHAT IT READS IS OF BULK AT MOST 1048576: true; the input reads as it did. -/
def fnWriteOrderUptoRow : OpenClaim := { program := "ytachfmlfmpaddaagreatdoor", sum := "6289d4114f6298de4ae062ad1a3c87b7640bd16da04852300548893b1f3e875e", func := "loop.example/proofarchive/laws.FnWriteOrder", spec := "fnWriteOrder", inPlace := ["internal/bytealg.CountString", "internal/bytealg.IndexByteString", "internal/bytealg.IndexString", "internal/abi.NoEscape", "internal/bytealg.MakeNoZero", "slices.overlaps[loop.example/proofarchive/impl.Piece]", "slices.overlaps[loop.example/proofarchive/impl.Entry]"], unfollowed := true, recurses := true, named := ["unicode/utf8.first", "unicode/utf8.acceptRanges", "internal/bytealg.MaxLen", "internal/strconv.uint64pow10", "math/bits.deBruijn32tab", "math/bits.deBruijn64tab"], apart := false, laid := [("math/bits.deBruijn32tab", laid_math_bits_deBruijn32tab), ("math/bits.deBruijn64tab", laid_math_bits_deBruijn64tab), ("internal/strconv.uint64pow10", laid_internal_strconv_uint64pow10), ("unicode/utf8.acceptRanges", laid_unicode_utf8_acceptRanges), ("unicode/utf8.first", laid_unicode_utf8_first)], narrowed := true }
def FnWriteOrderUptoSaid : Prop := fnWriteOrderUptoRow.holds Tryz.pinned (OpenSpec.upto fnWriteOrderSpec)

end Rows
end Go.Proofs.YtachfmlfmpaddaaGreatDoor
