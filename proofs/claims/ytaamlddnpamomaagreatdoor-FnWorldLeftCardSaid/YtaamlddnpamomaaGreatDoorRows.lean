/-
  NARROWER THAN 'FOR EVERY INPUT', by the rows' own cells (each row's printed sentence says how): FnHearParts: laid · FnHearRoom: laid · FnHearMore: laid · FnHearTwice: laid · FnHearWindow: laid · FnHearCall: laid · FnHearReset: laid · FnWorldLeft: laid.
  DERIVED. THE GIVEN ROWS OF THIS SEAT. 8 by the template 'for every input the law returns true; each argument reads behind the call as it read before'; 0 by the template 'total and deterministic' (their statements: YtaamlddnpamomaaGreatDoorTotals.lean).
  GIVEN WITH THE SEED: the statements are not yours to turn. If you find one false, say at which input.
  Laid BY PROGRAM, IN A SANDBOX (cutbox-rows.mjs): the forced cells as the released guide's own fill.sh prints them over the translation 0cc71757d18db621… (all of the seat's roots in one cut). By AI agents, Wed Nov 11 2026. No macro, syntax, notation, axiom, sorry.
-/
import Derived.Test.YtaamlddnpamomaaGreatDoorChecked
import GoSem.Claim
import GoSem.ClaimJoined
import GoSem.ClaimMapViews
import Derived.JoinedTies
import Derived.KernelRfl
namespace Go.Proofs.YtaamlddnpamomaaGreatDoor
/- THE CELL 'sum', in the pinned program and in every row, IS THE sha256 OF THE DUMP (.gsa) THAT YtaamlddnpamomaaGreatDoorProg.lean LOADS. Nothing in Lean hashes anything: it is a label: what it is worth is what the hold of that sum in a sandbox is worth. -/
noncomputable def Tryz.pinned : Pinned := { name := "ytaamlddnpamomaagreatdoor", sum := "0cc71757d18db62192624bd8713d236b93e53cd309dad2f221008b5e93e0402c", checked := Tryz.checked }
namespace Rows
def none {H : Type} : Left H := { results := [], args := [] }

/- WHAT THE LISTED PACKAGE-LEVEL VARIABLES READ AS WHEN THE CALL BEGINS. Each datum BY PROGRAM (the guide's laid-datum.mjs) off the statement by which the dump's own 'gosem.cut.vars' lays the variable. In a bare row this is a premise. The card (YtaamlddnpamomaaGreatDoorCards.lean) ties it to the program's text. -/
def laid_math_bits_deBruijn32tab {H : Type} : DataW H := .agg [.lit (.int .u8 0), .lit (.int .u8 1), .lit (.int .u8 28), .lit (.int .u8 2), .lit (.int .u8 29), .lit (.int .u8 14), .lit (.int .u8 24), .lit (.int .u8 3), .lit (.int .u8 30), .lit (.int .u8 22), .lit (.int .u8 20), .lit (.int .u8 15), .lit (.int .u8 25), .lit (.int .u8 17), .lit (.int .u8 4), .lit (.int .u8 8), .lit (.int .u8 31), .lit (.int .u8 27), .lit (.int .u8 13), .lit (.int .u8 23), .lit (.int .u8 21), .lit (.int .u8 19), .lit (.int .u8 16), .lit (.int .u8 7), .lit (.int .u8 26), .lit (.int .u8 12), .lit (.int .u8 18), .lit (.int .u8 6), .lit (.int .u8 11), .lit (.int .u8 5), .lit (.int .u8 10), .lit (.int .u8 9)]
def laid_math_bits_deBruijn64tab {H : Type} : DataW H := .agg [.lit (.int .u8 0), .lit (.int .u8 1), .lit (.int .u8 56), .lit (.int .u8 2), .lit (.int .u8 57), .lit (.int .u8 49), .lit (.int .u8 28), .lit (.int .u8 3), .lit (.int .u8 61), .lit (.int .u8 58), .lit (.int .u8 42), .lit (.int .u8 50), .lit (.int .u8 38), .lit (.int .u8 29), .lit (.int .u8 17), .lit (.int .u8 4), .lit (.int .u8 62), .lit (.int .u8 47), .lit (.int .u8 59), .lit (.int .u8 36), .lit (.int .u8 45), .lit (.int .u8 43), .lit (.int .u8 51), .lit (.int .u8 22), .lit (.int .u8 53), .lit (.int .u8 39), .lit (.int .u8 33), .lit (.int .u8 30), .lit (.int .u8 24), .lit (.int .u8 18), .lit (.int .u8 12), .lit (.int .u8 5), .lit (.int .u8 63), .lit (.int .u8 55), .lit (.int .u8 48), .lit (.int .u8 27), .lit (.int .u8 60), .lit (.int .u8 41), .lit (.int .u8 37), .lit (.int .u8 16), .lit (.int .u8 46), .lit (.int .u8 35), .lit (.int .u8 44), .lit (.int .u8 21), .lit (.int .u8 52), .lit (.int .u8 32), .lit (.int .u8 23), .lit (.int .u8 11), .lit (.int .u8 54), .lit (.int .u8 26), .lit (.int .u8 40), .lit (.int .u8 15), .lit (.int .u8 34), .lit (.int .u8 20), .lit (.int .u8 31), .lit (.int .u8 10), .lit (.int .u8 25), .lit (.int .u8 14), .lit (.int .u8 19), .lit (.int .u8 9), .lit (.int .u8 13), .lit (.int .u8 8), .lit (.int .u8 7), .lit (.int .u8 6)]
def laid_internal_strconv_uint64pow10 {H : Type} : DataW H := .agg [.lit (.int .u64 1), .lit (.int .u64 10), .lit (.int .u64 100), .lit (.int .u64 1000), .lit (.int .u64 10000), .lit (.int .u64 100000), .lit (.int .u64 1000000), .lit (.int .u64 10000000), .lit (.int .u64 100000000), .lit (.int .u64 1000000000), .lit (.int .u64 10000000000), .lit (.int .u64 100000000000), .lit (.int .u64 1000000000000), .lit (.int .u64 10000000000000), .lit (.int .u64 100000000000000), .lit (.int .u64 1000000000000000), .lit (.int .u64 10000000000000000), .lit (.int .u64 100000000000000000), .lit (.int .u64 1000000000000000000), .lit (.int .u64 10000000000000000000)]

/-- 'laws.FnHearParts': WHATEVER THE INPUT: true; the input reads as it did. -/
def fnHearPartsSpec : ChangeSpec := { name := "fnHearParts", fn := fun _ => fun
  | [d1, d2] => { results := [.lit (.bool true)], args := [d1, d2] }
  | _ => none }
def fnHearPartsRow : OpenClaim := { program := "ytaamlddnpamomaagreatdoor", sum := "0cc71757d18db62192624bd8713d236b93e53cd309dad2f221008b5e93e0402c", func := "loop.example/lamson/laws.FnHearParts", spec := "fnHearParts", inPlace := ["internal/bytealg.IndexByteString"], unfollowed := true, recurses := true, named := ["internal/strconv.uint64pow10", "math/bits.deBruijn32tab", "math/bits.deBruijn64tab"], apart := false, laid := [("math/bits.deBruijn32tab", laid_math_bits_deBruijn32tab), ("math/bits.deBruijn64tab", laid_math_bits_deBruijn64tab), ("internal/strconv.uint64pow10", laid_internal_strconv_uint64pow10)] }
def FnHearPartsSaid : Prop := fnHearPartsRow.holds Tryz.pinned (OpenSpec.ofChange fnHearPartsSpec)

/-- ITS FALSE NEIGHBOUR: 'it returns false'. Refute it at one input. -/
def fnHearPartsWrong : ChangeSpec := { name := "fnHearParts", fn := fun _ => fun
  | [d1, d2] => { results := [.lit (.bool false)], args := [d1, d2] }
  | _ => none }
def FnHearPartsWrongFalsely : Prop := fnHearPartsRow.holds Tryz.pinned (OpenSpec.ofChange fnHearPartsWrong)

/-- 'laws.FnHearRoom': WHATEVER THE INPUT: true; the input reads as it did. -/
def fnHearRoomSpec : ChangeSpec := { name := "fnHearRoom", fn := fun _ => fun
  | [d] => { results := [.lit (.bool true)], args := [d] }
  | _ => none }
def fnHearRoomRow : OpenClaim := { program := "ytaamlddnpamomaagreatdoor", sum := "0cc71757d18db62192624bd8713d236b93e53cd309dad2f221008b5e93e0402c", func := "loop.example/lamson/laws.FnHearRoom", spec := "fnHearRoom", inPlace := ["internal/bytealg.IndexByteString"], unfollowed := true, recurses := true, named := ["internal/strconv.uint64pow10", "math/bits.deBruijn32tab", "math/bits.deBruijn64tab"], apart := false, laid := [("math/bits.deBruijn32tab", laid_math_bits_deBruijn32tab), ("math/bits.deBruijn64tab", laid_math_bits_deBruijn64tab), ("internal/strconv.uint64pow10", laid_internal_strconv_uint64pow10)] }
def FnHearRoomSaid : Prop := fnHearRoomRow.holds Tryz.pinned (OpenSpec.ofChange fnHearRoomSpec)

/-- ITS FALSE NEIGHBOUR: 'it returns false'. Refute it at one input. -/
def fnHearRoomWrong : ChangeSpec := { name := "fnHearRoom", fn := fun _ => fun
  | [d] => { results := [.lit (.bool false)], args := [d] }
  | _ => none }
def FnHearRoomWrongFalsely : Prop := fnHearRoomRow.holds Tryz.pinned (OpenSpec.ofChange fnHearRoomWrong)

/-- 'laws.FnHearMore': WHATEVER THE INPUT: true; the input reads as it did. -/
def fnHearMoreSpec : ChangeSpec := { name := "fnHearMore", fn := fun _ => fun
  | [d1, d2] => { results := [.lit (.bool true)], args := [d1, d2] }
  | _ => none }
def fnHearMoreRow : OpenClaim := { program := "ytaamlddnpamomaagreatdoor", sum := "0cc71757d18db62192624bd8713d236b93e53cd309dad2f221008b5e93e0402c", func := "loop.example/lamson/laws.FnHearMore", spec := "fnHearMore", inPlace := ["internal/bytealg.IndexByteString"], unfollowed := true, recurses := true, named := ["internal/strconv.uint64pow10", "math/bits.deBruijn32tab", "math/bits.deBruijn64tab"], apart := false, laid := [("math/bits.deBruijn32tab", laid_math_bits_deBruijn32tab), ("math/bits.deBruijn64tab", laid_math_bits_deBruijn64tab), ("internal/strconv.uint64pow10", laid_internal_strconv_uint64pow10)] }
def FnHearMoreSaid : Prop := fnHearMoreRow.holds Tryz.pinned (OpenSpec.ofChange fnHearMoreSpec)

/-- ITS FALSE NEIGHBOUR: 'it returns false'. Refute it at one input. -/
def fnHearMoreWrong : ChangeSpec := { name := "fnHearMore", fn := fun _ => fun
  | [d1, d2] => { results := [.lit (.bool false)], args := [d1, d2] }
  | _ => none }
def FnHearMoreWrongFalsely : Prop := fnHearMoreRow.holds Tryz.pinned (OpenSpec.ofChange fnHearMoreWrong)

/-- 'laws.FnHearTwice': WHATEVER THE INPUT: true; the input reads as it did. -/
def fnHearTwiceSpec : ChangeSpec := { name := "fnHearTwice", fn := fun _ => fun
  | [d] => { results := [.lit (.bool true)], args := [d] }
  | _ => none }
def fnHearTwiceRow : OpenClaim := { program := "ytaamlddnpamomaagreatdoor", sum := "0cc71757d18db62192624bd8713d236b93e53cd309dad2f221008b5e93e0402c", func := "loop.example/lamson/laws.FnHearTwice", spec := "fnHearTwice", inPlace := ["internal/bytealg.IndexByteString"], unfollowed := true, recurses := true, named := ["internal/strconv.uint64pow10", "math/bits.deBruijn32tab", "math/bits.deBruijn64tab"], apart := false, laid := [("math/bits.deBruijn32tab", laid_math_bits_deBruijn32tab), ("math/bits.deBruijn64tab", laid_math_bits_deBruijn64tab), ("internal/strconv.uint64pow10", laid_internal_strconv_uint64pow10)] }
def FnHearTwiceSaid : Prop := fnHearTwiceRow.holds Tryz.pinned (OpenSpec.ofChange fnHearTwiceSpec)

/-- ITS FALSE NEIGHBOUR: 'it returns false'. Refute it at one input. -/
def fnHearTwiceWrong : ChangeSpec := { name := "fnHearTwice", fn := fun _ => fun
  | [d] => { results := [.lit (.bool false)], args := [d] }
  | _ => none }
def FnHearTwiceWrongFalsely : Prop := fnHearTwiceRow.holds Tryz.pinned (OpenSpec.ofChange fnHearTwiceWrong)

/-- 'laws.FnHearWindow': WHATEVER THE INPUT: true; the input reads as it did. -/
def fnHearWindowSpec : ChangeSpec := { name := "fnHearWindow", fn := fun _ => fun
  | [d1, d2] => { results := [.lit (.bool true)], args := [d1, d2] }
  | _ => none }
def fnHearWindowRow : OpenClaim := { program := "ytaamlddnpamomaagreatdoor", sum := "0cc71757d18db62192624bd8713d236b93e53cd309dad2f221008b5e93e0402c", func := "loop.example/lamson/laws.FnHearWindow", spec := "fnHearWindow", inPlace := ["internal/bytealg.IndexByteString"], unfollowed := true, recurses := true, named := ["internal/strconv.uint64pow10", "math/bits.deBruijn32tab", "math/bits.deBruijn64tab"], apart := false, laid := [("math/bits.deBruijn32tab", laid_math_bits_deBruijn32tab), ("math/bits.deBruijn64tab", laid_math_bits_deBruijn64tab), ("internal/strconv.uint64pow10", laid_internal_strconv_uint64pow10)] }
def FnHearWindowSaid : Prop := fnHearWindowRow.holds Tryz.pinned (OpenSpec.ofChange fnHearWindowSpec)

/-- ITS FALSE NEIGHBOUR: 'it returns false'. Refute it at one input. -/
def fnHearWindowWrong : ChangeSpec := { name := "fnHearWindow", fn := fun _ => fun
  | [d1, d2] => { results := [.lit (.bool false)], args := [d1, d2] }
  | _ => none }
def FnHearWindowWrongFalsely : Prop := fnHearWindowRow.holds Tryz.pinned (OpenSpec.ofChange fnHearWindowWrong)

/-- 'laws.FnHearCall': WHATEVER THE INPUT: true; the input reads as it did. -/
def fnHearCallSpec : ChangeSpec := { name := "fnHearCall", fn := fun _ => fun
  | [d] => { results := [.lit (.bool true)], args := [d] }
  | _ => none }
def fnHearCallRow : OpenClaim := { program := "ytaamlddnpamomaagreatdoor", sum := "0cc71757d18db62192624bd8713d236b93e53cd309dad2f221008b5e93e0402c", func := "loop.example/lamson/laws.FnHearCall", spec := "fnHearCall", inPlace := ["internal/bytealg.IndexByteString", "internal/abi.NoEscape"], unfollowed := true, recurses := true, named := ["internal/strconv.uint64pow10", "math/bits.deBruijn32tab", "math/bits.deBruijn64tab"], apart := false, laid := [("math/bits.deBruijn32tab", laid_math_bits_deBruijn32tab), ("math/bits.deBruijn64tab", laid_math_bits_deBruijn64tab), ("internal/strconv.uint64pow10", laid_internal_strconv_uint64pow10)] }
def FnHearCallSaid : Prop := fnHearCallRow.holds Tryz.pinned (OpenSpec.ofChange fnHearCallSpec)

/-- ITS FALSE NEIGHBOUR: 'it returns false'. Refute it at one input. -/
def fnHearCallWrong : ChangeSpec := { name := "fnHearCall", fn := fun _ => fun
  | [d] => { results := [.lit (.bool false)], args := [d] }
  | _ => none }
def FnHearCallWrongFalsely : Prop := fnHearCallRow.holds Tryz.pinned (OpenSpec.ofChange fnHearCallWrong)

/-- 'laws.FnHearReset': WHATEVER THE INPUT: true; the input reads as it did. -/
def fnHearResetSpec : ChangeSpec := { name := "fnHearReset", fn := fun _ => fun
  | [d] => { results := [.lit (.bool true)], args := [d] }
  | _ => none }
def fnHearResetRow : OpenClaim := { program := "ytaamlddnpamomaagreatdoor", sum := "0cc71757d18db62192624bd8713d236b93e53cd309dad2f221008b5e93e0402c", func := "loop.example/lamson/laws.FnHearReset", spec := "fnHearReset", inPlace := ["internal/bytealg.IndexByteString", "internal/abi.NoEscape"], unfollowed := true, recurses := true, named := ["internal/strconv.uint64pow10", "math/bits.deBruijn32tab", "math/bits.deBruijn64tab"], apart := false, laid := [("math/bits.deBruijn32tab", laid_math_bits_deBruijn32tab), ("math/bits.deBruijn64tab", laid_math_bits_deBruijn64tab), ("internal/strconv.uint64pow10", laid_internal_strconv_uint64pow10)] }
def FnHearResetSaid : Prop := fnHearResetRow.holds Tryz.pinned (OpenSpec.ofChange fnHearResetSpec)

/-- ITS FALSE NEIGHBOUR: 'it returns false'. Refute it at one input. -/
def fnHearResetWrong : ChangeSpec := { name := "fnHearReset", fn := fun _ => fun
  | [d] => { results := [.lit (.bool false)], args := [d] }
  | _ => none }
def FnHearResetWrongFalsely : Prop := fnHearResetRow.holds Tryz.pinned (OpenSpec.ofChange fnHearResetWrong)

/-- 'laws.FnWorldLeft': WHATEVER THE INPUT: true; the input reads as it did. -/
def fnWorldLeftSpec : ChangeSpec := { name := "fnWorldLeft", fn := fun _ => fun
  | [d1, d2] => { results := [.lit (.bool true)], args := [d1, d2] }
  | _ => none }
def fnWorldLeftRow : OpenClaim := { program := "ytaamlddnpamomaagreatdoor", sum := "0cc71757d18db62192624bd8713d236b93e53cd309dad2f221008b5e93e0402c", func := "loop.example/lamson/laws.FnWorldLeft", spec := "fnWorldLeft", inPlace := ["internal/bytealg.IndexByteString", "internal/abi.NoEscape"], unfollowed := true, recurses := true, named := ["internal/strconv.uint64pow10", "math/bits.deBruijn32tab", "math/bits.deBruijn64tab"], apart := false, laid := [("math/bits.deBruijn32tab", laid_math_bits_deBruijn32tab), ("math/bits.deBruijn64tab", laid_math_bits_deBruijn64tab), ("internal/strconv.uint64pow10", laid_internal_strconv_uint64pow10)] }
def FnWorldLeftSaid : Prop := fnWorldLeftRow.holds Tryz.pinned (OpenSpec.ofChange fnWorldLeftSpec)

/-- ITS FALSE NEIGHBOUR: 'it returns false'. Refute it at one input. -/
def fnWorldLeftWrong : ChangeSpec := { name := "fnWorldLeft", fn := fun _ => fun
  | [d1, d2] => { results := [.lit (.bool false)], args := [d1, d2] }
  | _ => none }
def FnWorldLeftWrongFalsely : Prop := fnWorldLeftRow.holds Tryz.pinned (OpenSpec.ofChange fnWorldLeftWrong)

/- THE SECOND FORM. 'bulk': how many values and letters a reading holds, each counted each time it is reached (what is shared counts as often as it is met; a slice's spare places count too). A statement '..UptoSaid' is the law's where the arguments, and the package variables that the reading takes, are together of bulk at most 1048576: NARROWER than '..Said'. Prove '..Said' where nothing that the law and all that it calls make is longer than what came in: it says more and counts as full. Else prove '..UptoSaid'. A law counts once. -/
mutual
def uptoBulk {H : Type} : DataW H → Nat
  | .lit (.string bytes) => bytes.length + 1
  | .lit _ => 1
  | .nil => 1
  | .ptr d => uptoBulk d + 1
  | .slice elems spare => uptoBulkAll elems + uptoBulkAll spare + 1
  | .agg parts => uptoBulkAll parts + 1
  | .iface _ d => uptoBulk d + 1
  | .map entries => uptoBulkEntries entries + 1
  | .held _ => 1
def uptoBulkAll {H : Type} : List (DataW H) → Nat
  | [] => 0
  | d :: r => uptoBulk d + uptoBulkAll r
def uptoBulkEntries {H : Type} : List (Lit × DataW H) → Nat
  | [] => 0
  | x :: r => uptoBulkEntry x + uptoBulkEntries r
def uptoBulkEntry {H : Type} : Lit × DataW H → Nat
  | (.string bytes, d) => bytes.length + uptoBulk d + 1
  | (_, d) => uptoBulk d + 1
 end
def uptoSmall : (H : Type) → List (DataW H) → Bool := fun _ ds => decide (uptoBulkAll ds ≤ 1048576)
def OpenSpec.upto (s : _root_.Go.ChangeSpec) : _root_.Go.OpenSpec := { _root_.Go.OpenSpec.ofChange s with cond := some uptoSmall }

/-- 'laws.FnHearParts', WHERE WHAT IT READS IS OF BULK AT MOST 1048576: true; the input reads as it did. -/
def fnHearPartsUptoRow : OpenClaim := { program := "ytaamlddnpamomaagreatdoor", sum := "0cc71757d18db62192624bd8713d236b93e53cd309dad2f221008b5e93e0402c", func := "loop.example/lamson/laws.FnHearParts", spec := "fnHearParts", inPlace := ["internal/bytealg.IndexByteString"], unfollowed := true, recurses := true, named := ["internal/strconv.uint64pow10", "math/bits.deBruijn32tab", "math/bits.deBruijn64tab"], apart := false, laid := [("math/bits.deBruijn32tab", laid_math_bits_deBruijn32tab), ("math/bits.deBruijn64tab", laid_math_bits_deBruijn64tab), ("internal/strconv.uint64pow10", laid_internal_strconv_uint64pow10)], narrowed := true }
def FnHearPartsUptoSaid : Prop := fnHearPartsUptoRow.holds Tryz.pinned (OpenSpec.upto fnHearPartsSpec)

/-- 'laws.FnHearRoom', WHERE WHAT IT READS IS OF BULK AT MOST 1048576: true; the input reads as it did. -/
def fnHearRoomUptoRow : OpenClaim := { program := "ytaamlddnpamomaagreatdoor", sum := "0cc71757d18db62192624bd8713d236b93e53cd309dad2f221008b5e93e0402c", func := "loop.example/lamson/laws.FnHearRoom", spec := "fnHearRoom", inPlace := ["internal/bytealg.IndexByteString"], unfollowed := true, recurses := true, named := ["internal/strconv.uint64pow10", "math/bits.deBruijn32tab", "math/bits.deBruijn64tab"], apart := false, laid := [("math/bits.deBruijn32tab", laid_math_bits_deBruijn32tab), ("math/bits.deBruijn64tab", laid_math_bits_deBruijn64tab), ("internal/strconv.uint64pow10", laid_internal_strconv_uint64pow10)], narrowed := true }
def FnHearRoomUptoSaid : Prop := fnHearRoomUptoRow.holds Tryz.pinned (OpenSpec.upto fnHearRoomSpec)

/-- 'laws.FnHearMore', WHERE WHAT IT READS IS OF BULK AT MOST 1048576: true; the input reads as it did. -/
def fnHearMoreUptoRow : OpenClaim := { program := "ytaamlddnpamomaagreatdoor", sum := "0cc71757d18db62192624bd8713d236b93e53cd309dad2f221008b5e93e0402c", func := "loop.example/lamson/laws.FnHearMore", spec := "fnHearMore", inPlace := ["internal/bytealg.IndexByteString"], unfollowed := true, recurses := true, named := ["internal/strconv.uint64pow10", "math/bits.deBruijn32tab", "math/bits.deBruijn64tab"], apart := false, laid := [("math/bits.deBruijn32tab", laid_math_bits_deBruijn32tab), ("math/bits.deBruijn64tab", laid_math_bits_deBruijn64tab), ("internal/strconv.uint64pow10", laid_internal_strconv_uint64pow10)], narrowed := true }
def FnHearMoreUptoSaid : Prop := fnHearMoreUptoRow.holds Tryz.pinned (OpenSpec.upto fnHearMoreSpec)

/-- 'laws.FnHearTwice', WHERE WHAT IT READS IS OF BULK AT MOST 1048576: true; the input reads as it did. -/
def fnHearTwiceUptoRow : OpenClaim := { program := "ytaamlddnpamomaagreatdoor", sum := "0cc71757d18db62192624bd8713d236b93e53cd309dad2f221008b5e93e0402c", func := "loop.example/lamson/laws.FnHearTwice", spec := "fnHearTwice", inPlace := ["internal/bytealg.IndexByteString"], unfollowed := true, recurses := true, named := ["internal/strconv.uint64pow10", "math/bits.deBruijn32tab", "math/bits.deBruijn64tab"], apart := false, laid := [("math/bits.deBruijn32tab", laid_math_bits_deBruijn32tab), ("math/bits.deBruijn64tab", laid_math_bits_deBruijn64tab), ("internal/strconv.uint64pow10", laid_internal_strconv_uint64pow10)], narrowed := true }
def FnHearTwiceUptoSaid : Prop := fnHearTwiceUptoRow.holds Tryz.pinned (OpenSpec.upto fnHearTwiceSpec)

/-- 'laws.FnHearWindow', WHERE WHAT IT READS IS OF BULK AT MOST 1048576: true; the input reads as it did. -/
def fnHearWindowUptoRow : OpenClaim := { program := "ytaamlddnpamomaagreatdoor", sum := "0cc71757d18db62192624bd8713d236b93e53cd309dad2f221008b5e93e0402c", func := "loop.example/lamson/laws.FnHearWindow", spec := "fnHearWindow", inPlace := ["internal/bytealg.IndexByteString"], unfollowed := true, recurses := true, named := ["internal/strconv.uint64pow10", "math/bits.deBruijn32tab", "math/bits.deBruijn64tab"], apart := false, laid := [("math/bits.deBruijn32tab", laid_math_bits_deBruijn32tab), ("math/bits.deBruijn64tab", laid_math_bits_deBruijn64tab), ("internal/strconv.uint64pow10", laid_internal_strconv_uint64pow10)], narrowed := true }
def FnHearWindowUptoSaid : Prop := fnHearWindowUptoRow.holds Tryz.pinned (OpenSpec.upto fnHearWindowSpec)

/-- 'laws.FnHearCall', WHERE WHAT IT READS IS OF BULK AT MOST 1048576: true; the input reads as it did. -/
def fnHearCallUptoRow : OpenClaim := { program := "ytaamlddnpamomaagreatdoor", sum := "0cc71757d18db62192624bd8713d236b93e53cd309dad2f221008b5e93e0402c", func := "loop.example/lamson/laws.FnHearCall", spec := "fnHearCall", inPlace := ["internal/bytealg.IndexByteString", "internal/abi.NoEscape"], unfollowed := true, recurses := true, named := ["internal/strconv.uint64pow10", "math/bits.deBruijn32tab", "math/bits.deBruijn64tab"], apart := false, laid := [("math/bits.deBruijn32tab", laid_math_bits_deBruijn32tab), ("math/bits.deBruijn64tab", laid_math_bits_deBruijn64tab), ("internal/strconv.uint64pow10", laid_internal_strconv_uint64pow10)], narrowed := true }
def FnHearCallUptoSaid : Prop := fnHearCallUptoRow.holds Tryz.pinned (OpenSpec.upto fnHearCallSpec)

/-- 'laws.FnHearReset', WHERE WHAT IT READS IS OF BULK AT MOST 1048576: true; the input reads as it did. -/
def fnHearResetUptoRow : OpenClaim := { program := "ytaamlddnpamomaagreatdoor", sum := "0cc71757d18db62192624bd8713d236b93e53cd309dad2f221008b5e93e0402c", func := "loop.example/lamson/laws.FnHearReset", spec := "fnHearReset", inPlace := ["internal/bytealg.IndexByteString", "internal/abi.NoEscape"], unfollowed := true, recurses := true, named := ["internal/strconv.uint64pow10", "math/bits.deBruijn32tab", "math/bits.deBruijn64tab"], apart := false, laid := [("math/bits.deBruijn32tab", laid_math_bits_deBruijn32tab), ("math/bits.deBruijn64tab", laid_math_bits_deBruijn64tab), ("internal/strconv.uint64pow10", laid_internal_strconv_uint64pow10)], narrowed := true }
def FnHearResetUptoSaid : Prop := fnHearResetUptoRow.holds Tryz.pinned (OpenSpec.upto fnHearResetSpec)

/-- 'laws.FnWorldLeft', WHERE WHAT IT READS IS OF BULK AT MOST 1048576: true; the input reads as it did. -/
def fnWorldLeftUptoRow : OpenClaim := { program := "ytaamlddnpamomaagreatdoor", sum := "0cc71757d18db62192624bd8713d236b93e53cd309dad2f221008b5e93e0402c", func := "loop.example/lamson/laws.FnWorldLeft", spec := "fnWorldLeft", inPlace := ["internal/bytealg.IndexByteString", "internal/abi.NoEscape"], unfollowed := true, recurses := true, named := ["internal/strconv.uint64pow10", "math/bits.deBruijn32tab", "math/bits.deBruijn64tab"], apart := false, laid := [("math/bits.deBruijn32tab", laid_math_bits_deBruijn32tab), ("math/bits.deBruijn64tab", laid_math_bits_deBruijn64tab), ("internal/strconv.uint64pow10", laid_internal_strconv_uint64pow10)], narrowed := true }
def FnWorldLeftUptoSaid : Prop := fnWorldLeftUptoRow.holds Tryz.pinned (OpenSpec.upto fnWorldLeftSpec)

end Rows
end Go.Proofs.YtaamlddnpamomaaGreatDoor
