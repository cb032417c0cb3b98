/-
  NARROWER THAN 'FOR EVERY INPUT', by the rows' own cells (each row's printed sentence says how): FnWorldSent: laid · FnWorldWindow: laid · FnWorldCalm: laid · FnWorldOwn: laid · FnWorldLeft: laid · FnWorldIdle: laid · FnWorldParts: laid · FnWorldPass: laid · FnWorldWrite: laid · FnWorldDo: laid · FnWorldRounds: laid · FnHearBad: laid.
  DERIVED. THE GIVEN ROWS OF THIS SEAT. 12 by the template 'for every input the law returns true; each argument reads behind the call as it read before'; 0 by the template 'total and deterministic' (their statements: YtodjmflbakfmjaaGreatDoorTotals.lean).
  GIVEN WITH THE SEED: the statements are not yours to turn. If you find one false, say at which input.
  Laid BY PROGRAM, IN A SANDBOX (cutbox-rows.mjs): the forced cells as the released guide's own fill.sh prints them over the translation feff0594b34e2e66… (all of the seat's roots in one cut). By AI agents, Wed Nov 11 2026. No macro, syntax, notation, axiom, sorry.
-/
import Derived.Test.YtodjmflbakfmjaaGreatDoorChecked
import GoSem.Claim
import GoSem.ClaimJoined
import GoSem.ClaimMapViews
import Derived.JoinedTies
import Derived.KernelRfl
namespace Go.Proofs.YtodjmflbakfmjaaGreatDoor
/- THE CELL 'sum', in the pinned program and in every row, IS THE sha256 OF THE DUMP (.gsa) THAT YtodjmflbakfmjaaGreatDoorProg.lean LOADS. Nothing in Lean hashes anything: it is a label: what it is worth is what the hold of that sum in a sandbox is worth. -/
noncomputable def Tryz.pinned : Pinned := { name := "ytodjmflbakfmjaagreatdoor", sum := "feff0594b34e2e66b03044829a70c471756dcd4191b8506c0892a55a8d411d6a", checked := Tryz.checked }
namespace Rows
def none {H : Type} : Left H := { results := [], args := [] }

/- WHAT THE LISTED PACKAGE-LEVEL VARIABLES READ AS WHEN THE CALL BEGINS. Each datum BY PROGRAM (the guide's laid-datum.mjs) off the statement by which the dump's own 'gosem.cut.vars' lays the variable. In a bare row this is a premise. The card (YtodjmflbakfmjaaGreatDoorCards.lean) ties it to the program's text. -/
def laid_math_bits_deBruijn32tab {H : Type} : DataW H := .agg [.lit (.int .u8 0), .lit (.int .u8 1), .lit (.int .u8 28), .lit (.int .u8 2), .lit (.int .u8 29), .lit (.int .u8 14), .lit (.int .u8 24), .lit (.int .u8 3), .lit (.int .u8 30), .lit (.int .u8 22), .lit (.int .u8 20), .lit (.int .u8 15), .lit (.int .u8 25), .lit (.int .u8 17), .lit (.int .u8 4), .lit (.int .u8 8), .lit (.int .u8 31), .lit (.int .u8 27), .lit (.int .u8 13), .lit (.int .u8 23), .lit (.int .u8 21), .lit (.int .u8 19), .lit (.int .u8 16), .lit (.int .u8 7), .lit (.int .u8 26), .lit (.int .u8 12), .lit (.int .u8 18), .lit (.int .u8 6), .lit (.int .u8 11), .lit (.int .u8 5), .lit (.int .u8 10), .lit (.int .u8 9)]
def laid_math_bits_deBruijn64tab {H : Type} : DataW H := .agg [.lit (.int .u8 0), .lit (.int .u8 1), .lit (.int .u8 56), .lit (.int .u8 2), .lit (.int .u8 57), .lit (.int .u8 49), .lit (.int .u8 28), .lit (.int .u8 3), .lit (.int .u8 61), .lit (.int .u8 58), .lit (.int .u8 42), .lit (.int .u8 50), .lit (.int .u8 38), .lit (.int .u8 29), .lit (.int .u8 17), .lit (.int .u8 4), .lit (.int .u8 62), .lit (.int .u8 47), .lit (.int .u8 59), .lit (.int .u8 36), .lit (.int .u8 45), .lit (.int .u8 43), .lit (.int .u8 51), .lit (.int .u8 22), .lit (.int .u8 53), .lit (.int .u8 39), .lit (.int .u8 33), .lit (.int .u8 30), .lit (.int .u8 24), .lit (.int .u8 18), .lit (.int .u8 12), .lit (.int .u8 5), .lit (.int .u8 63), .lit (.int .u8 55), .lit (.int .u8 48), .lit (.int .u8 27), .lit (.int .u8 60), .lit (.int .u8 41), .lit (.int .u8 37), .lit (.int .u8 16), .lit (.int .u8 46), .lit (.int .u8 35), .lit (.int .u8 44), .lit (.int .u8 21), .lit (.int .u8 52), .lit (.int .u8 32), .lit (.int .u8 23), .lit (.int .u8 11), .lit (.int .u8 54), .lit (.int .u8 26), .lit (.int .u8 40), .lit (.int .u8 15), .lit (.int .u8 34), .lit (.int .u8 20), .lit (.int .u8 31), .lit (.int .u8 10), .lit (.int .u8 25), .lit (.int .u8 14), .lit (.int .u8 19), .lit (.int .u8 9), .lit (.int .u8 13), .lit (.int .u8 8), .lit (.int .u8 7), .lit (.int .u8 6)]
def laid_internal_strconv_uint64pow10 {H : Type} : DataW H := .agg [.lit (.int .u64 1), .lit (.int .u64 10), .lit (.int .u64 100), .lit (.int .u64 1000), .lit (.int .u64 10000), .lit (.int .u64 100000), .lit (.int .u64 1000000), .lit (.int .u64 10000000), .lit (.int .u64 100000000), .lit (.int .u64 1000000000), .lit (.int .u64 10000000000), .lit (.int .u64 100000000000), .lit (.int .u64 1000000000000), .lit (.int .u64 10000000000000), .lit (.int .u64 100000000000000), .lit (.int .u64 1000000000000000), .lit (.int .u64 10000000000000000), .lit (.int .u64 100000000000000000), .lit (.int .u64 1000000000000000000), .lit (.int .u64 10000000000000000000)]

/-- 'laws.FnWorldSent': WHATEVER THE INPUT: true; the input reads as it did. -/
def fnWorldSentSpec : ChangeSpec := { name := "fnWorldSent", fn := fun _ => fun
  | [d] => { results := [.lit (.bool true)], args := [d] }
  | _ => none }
def fnWorldSentRow : OpenClaim := { program := "ytodjmflbakfmjaagreatdoor", sum := "feff0594b34e2e66b03044829a70c471756dcd4191b8506c0892a55a8d411d6a", func := "loop.example/lamson/laws.FnWorldSent", spec := "fnWorldSent", inPlace := ["internal/bytealg.IndexByteString", "internal/abi.NoEscape"], unfollowed := true, recurses := true, named := ["internal/strconv.uint64pow10", "math/bits.deBruijn32tab", "math/bits.deBruijn64tab"], apart := false, laid := [("math/bits.deBruijn32tab", laid_math_bits_deBruijn32tab), ("math/bits.deBruijn64tab", laid_math_bits_deBruijn64tab), ("internal/strconv.uint64pow10", laid_internal_strconv_uint64pow10)] }
def FnWorldSentSaid : Prop := fnWorldSentRow.holds Tryz.pinned (OpenSpec.ofChange fnWorldSentSpec)

/-- ITS FALSE NEIGHBOUR: 'it returns false'. Refute it at one input. -/
def fnWorldSentWrong : ChangeSpec := { name := "fnWorldSent", fn := fun _ => fun
  | [d] => { results := [.lit (.bool false)], args := [d] }
  | _ => none }
def FnWorldSentWrongFalsely : Prop := fnWorldSentRow.holds Tryz.pinned (OpenSpec.ofChange fnWorldSentWrong)

/-- 'laws.FnWorldWindow': WHATEVER THE INPUT: true; the input reads as it did. -/
def fnWorldWindowSpec : ChangeSpec := { name := "fnWorldWindow", fn := fun _ => fun
  | [d] => { results := [.lit (.bool true)], args := [d] }
  | _ => none }
def fnWorldWindowRow : OpenClaim := { program := "ytodjmflbakfmjaagreatdoor", sum := "feff0594b34e2e66b03044829a70c471756dcd4191b8506c0892a55a8d411d6a", func := "loop.example/lamson/laws.FnWorldWindow", spec := "fnWorldWindow", inPlace := ["internal/bytealg.IndexByteString", "internal/abi.NoEscape"], unfollowed := true, recurses := true, named := ["internal/strconv.uint64pow10", "math/bits.deBruijn32tab", "math/bits.deBruijn64tab"], apart := false, laid := [("math/bits.deBruijn32tab", laid_math_bits_deBruijn32tab), ("math/bits.deBruijn64tab", laid_math_bits_deBruijn64tab), ("internal/strconv.uint64pow10", laid_internal_strconv_uint64pow10)] }
def FnWorldWindowSaid : Prop := fnWorldWindowRow.holds Tryz.pinned (OpenSpec.ofChange fnWorldWindowSpec)

/-- ITS FALSE NEIGHBOUR: 'it returns false'. Refute it at one input. -/
def fnWorldWindowWrong : ChangeSpec := { name := "fnWorldWindow", fn := fun _ => fun
  | [d] => { results := [.lit (.bool false)], args := [d] }
  | _ => none }
def FnWorldWindowWrongFalsely : Prop := fnWorldWindowRow.holds Tryz.pinned (OpenSpec.ofChange fnWorldWindowWrong)

/-- 'laws.FnWorldCalm': WHATEVER THE INPUT: true; the input reads as it did. -/
def fnWorldCalmSpec : ChangeSpec := { name := "fnWorldCalm", fn := fun _ => fun
  | [d] => { results := [.lit (.bool true)], args := [d] }
  | _ => none }
def fnWorldCalmRow : OpenClaim := { program := "ytodjmflbakfmjaagreatdoor", sum := "feff0594b34e2e66b03044829a70c471756dcd4191b8506c0892a55a8d411d6a", func := "loop.example/lamson/laws.FnWorldCalm", spec := "fnWorldCalm", inPlace := ["internal/bytealg.IndexByteString", "internal/abi.NoEscape"], unfollowed := true, recurses := true, named := ["internal/strconv.uint64pow10", "math/bits.deBruijn32tab", "math/bits.deBruijn64tab"], apart := false, laid := [("math/bits.deBruijn32tab", laid_math_bits_deBruijn32tab), ("math/bits.deBruijn64tab", laid_math_bits_deBruijn64tab), ("internal/strconv.uint64pow10", laid_internal_strconv_uint64pow10)] }
def FnWorldCalmSaid : Prop := fnWorldCalmRow.holds Tryz.pinned (OpenSpec.ofChange fnWorldCalmSpec)

/-- ITS FALSE NEIGHBOUR: 'it returns false'. Refute it at one input. -/
def fnWorldCalmWrong : ChangeSpec := { name := "fnWorldCalm", fn := fun _ => fun
  | [d] => { results := [.lit (.bool false)], args := [d] }
  | _ => none }
def FnWorldCalmWrongFalsely : Prop := fnWorldCalmRow.holds Tryz.pinned (OpenSpec.ofChange fnWorldCalmWrong)

/-- 'laws.FnWorldOwn': WHATEVER THE INPUT: true; the input reads as it did. -/
def fnWorldOwnSpec : ChangeSpec := { name := "fnWorldOwn", fn := fun _ => fun
  | [d] => { results := [.lit (.bool true)], args := [d] }
  | _ => none }
def fnWorldOwnRow : OpenClaim := { program := "ytodjmflbakfmjaagreatdoor", sum := "feff0594b34e2e66b03044829a70c471756dcd4191b8506c0892a55a8d411d6a", func := "loop.example/lamson/laws.FnWorldOwn", spec := "fnWorldOwn", inPlace := ["internal/bytealg.IndexByteString", "internal/abi.NoEscape"], unfollowed := true, recurses := true, named := ["internal/strconv.uint64pow10", "math/bits.deBruijn32tab", "math/bits.deBruijn64tab"], apart := false, laid := [("math/bits.deBruijn32tab", laid_math_bits_deBruijn32tab), ("math/bits.deBruijn64tab", laid_math_bits_deBruijn64tab), ("internal/strconv.uint64pow10", laid_internal_strconv_uint64pow10)] }
def FnWorldOwnSaid : Prop := fnWorldOwnRow.holds Tryz.pinned (OpenSpec.ofChange fnWorldOwnSpec)

/-- ITS FALSE NEIGHBOUR: 'it returns false'. Refute it at one input. -/
def fnWorldOwnWrong : ChangeSpec := { name := "fnWorldOwn", fn := fun _ => fun
  | [d] => { results := [.lit (.bool false)], args := [d] }
  | _ => none }
def FnWorldOwnWrongFalsely : Prop := fnWorldOwnRow.holds Tryz.pinned (OpenSpec.ofChange fnWorldOwnWrong)

/-- 'laws.FnWorldLeft': WHATEVER THE INPUT: true; the input reads as it did. -/
def fnWorldLeftSpec : ChangeSpec := { name := "fnWorldLeft", fn := fun _ => fun
  | [d1, d2] => { results := [.lit (.bool true)], args := [d1, d2] }
  | _ => none }
def fnWorldLeftRow : OpenClaim := { program := "ytodjmflbakfmjaagreatdoor", sum := "feff0594b34e2e66b03044829a70c471756dcd4191b8506c0892a55a8d411d6a", func := "loop.example/lamson/laws.FnWorldLeft", spec := "fnWorldLeft", inPlace := ["internal/bytealg.IndexByteString", "internal/abi.NoEscape"], unfollowed := true, recurses := true, named := ["internal/strconv.uint64pow10", "math/bits.deBruijn32tab", "math/bits.deBruijn64tab"], apart := false, laid := [("math/bits.deBruijn32tab", laid_math_bits_deBruijn32tab), ("math/bits.deBruijn64tab", laid_math_bits_deBruijn64tab), ("internal/strconv.uint64pow10", laid_internal_strconv_uint64pow10)] }
def FnWorldLeftSaid : Prop := fnWorldLeftRow.holds Tryz.pinned (OpenSpec.ofChange fnWorldLeftSpec)

/-- ITS FALSE NEIGHBOUR: 'it returns false'. Refute it at one input. -/
def fnWorldLeftWrong : ChangeSpec := { name := "fnWorldLeft", fn := fun _ => fun
  | [d1, d2] => { results := [.lit (.bool false)], args := [d1, d2] }
  | _ => none }
def FnWorldLeftWrongFalsely : Prop := fnWorldLeftRow.holds Tryz.pinned (OpenSpec.ofChange fnWorldLeftWrong)

/-- 'laws.FnWorldIdle': WHATEVER THE INPUT: true; the input reads as it did. -/
def fnWorldIdleSpec : ChangeSpec := { name := "fnWorldIdle", fn := fun _ => fun
  | [d] => { results := [.lit (.bool true)], args := [d] }
  | _ => none }
def fnWorldIdleRow : OpenClaim := { program := "ytodjmflbakfmjaagreatdoor", sum := "feff0594b34e2e66b03044829a70c471756dcd4191b8506c0892a55a8d411d6a", func := "loop.example/lamson/laws.FnWorldIdle", spec := "fnWorldIdle", inPlace := ["internal/bytealg.IndexByteString", "internal/abi.NoEscape"], unfollowed := true, recurses := true, named := ["internal/strconv.uint64pow10", "math/bits.deBruijn32tab", "math/bits.deBruijn64tab"], apart := false, laid := [("math/bits.deBruijn32tab", laid_math_bits_deBruijn32tab), ("math/bits.deBruijn64tab", laid_math_bits_deBruijn64tab), ("internal/strconv.uint64pow10", laid_internal_strconv_uint64pow10)] }
def FnWorldIdleSaid : Prop := fnWorldIdleRow.holds Tryz.pinned (OpenSpec.ofChange fnWorldIdleSpec)

/-- ITS FALSE NEIGHBOUR: 'it returns false'. Refute it at one input. -/
def fnWorldIdleWrong : ChangeSpec := { name := "fnWorldIdle", fn := fun _ => fun
  | [d] => { results := [.lit (.bool false)], args := [d] }
  | _ => none }
def FnWorldIdleWrongFalsely : Prop := fnWorldIdleRow.holds Tryz.pinned (OpenSpec.ofChange fnWorldIdleWrong)

/-- 'laws.FnWorldParts': WHATEVER THE INPUT: true; the input reads as it did. -/
def fnWorldPartsSpec : ChangeSpec := { name := "fnWorldParts", fn := fun _ => fun
  | [d1, d2] => { results := [.lit (.bool true)], args := [d1, d2] }
  | _ => none }
def fnWorldPartsRow : OpenClaim := { program := "ytodjmflbakfmjaagreatdoor", sum := "feff0594b34e2e66b03044829a70c471756dcd4191b8506c0892a55a8d411d6a", func := "loop.example/lamson/laws.FnWorldParts", spec := "fnWorldParts", inPlace := ["internal/bytealg.IndexByteString", "internal/abi.NoEscape"], unfollowed := true, recurses := true, named := ["internal/strconv.uint64pow10", "math/bits.deBruijn32tab", "math/bits.deBruijn64tab"], apart := false, laid := [("math/bits.deBruijn32tab", laid_math_bits_deBruijn32tab), ("math/bits.deBruijn64tab", laid_math_bits_deBruijn64tab), ("internal/strconv.uint64pow10", laid_internal_strconv_uint64pow10)] }
def FnWorldPartsSaid : Prop := fnWorldPartsRow.holds Tryz.pinned (OpenSpec.ofChange fnWorldPartsSpec)

/-- ITS FALSE NEIGHBOUR: 'it returns false'. Refute it at one input. -/
def fnWorldPartsWrong : ChangeSpec := { name := "fnWorldParts", fn := fun _ => fun
  | [d1, d2] => { results := [.lit (.bool false)], args := [d1, d2] }
  | _ => none }
def FnWorldPartsWrongFalsely : Prop := fnWorldPartsRow.holds Tryz.pinned (OpenSpec.ofChange fnWorldPartsWrong)

/-- 'laws.FnWorldPass': WHATEVER THE INPUT: true; the input reads as it did. -/
def fnWorldPassSpec : ChangeSpec := { name := "fnWorldPass", fn := fun _ => fun
  | [d1, d2] => { results := [.lit (.bool true)], args := [d1, d2] }
  | _ => none }
def fnWorldPassRow : OpenClaim := { program := "ytodjmflbakfmjaagreatdoor", sum := "feff0594b34e2e66b03044829a70c471756dcd4191b8506c0892a55a8d411d6a", func := "loop.example/lamson/laws.FnWorldPass", spec := "fnWorldPass", inPlace := ["internal/bytealg.IndexByteString", "internal/abi.NoEscape"], unfollowed := true, recurses := true, named := ["internal/strconv.uint64pow10", "math/bits.deBruijn32tab", "math/bits.deBruijn64tab"], apart := false, laid := [("math/bits.deBruijn32tab", laid_math_bits_deBruijn32tab), ("math/bits.deBruijn64tab", laid_math_bits_deBruijn64tab), ("internal/strconv.uint64pow10", laid_internal_strconv_uint64pow10)] }
def FnWorldPassSaid : Prop := fnWorldPassRow.holds Tryz.pinned (OpenSpec.ofChange fnWorldPassSpec)

/-- ITS FALSE NEIGHBOUR: 'it returns false'. Refute it at one input. -/
def fnWorldPassWrong : ChangeSpec := { name := "fnWorldPass", fn := fun _ => fun
  | [d1, d2] => { results := [.lit (.bool false)], args := [d1, d2] }
  | _ => none }
def FnWorldPassWrongFalsely : Prop := fnWorldPassRow.holds Tryz.pinned (OpenSpec.ofChange fnWorldPassWrong)

/-- 'laws.FnWorldWrite': WHATEVER THE INPUT: true; the input reads as it did. -/
def fnWorldWriteSpec : ChangeSpec := { name := "fnWorldWrite", fn := fun _ => fun
  | [d] => { results := [.lit (.bool true)], args := [d] }
  | _ => none }
def fnWorldWriteRow : OpenClaim := { program := "ytodjmflbakfmjaagreatdoor", sum := "feff0594b34e2e66b03044829a70c471756dcd4191b8506c0892a55a8d411d6a", func := "loop.example/lamson/laws.FnWorldWrite", spec := "fnWorldWrite", inPlace := ["internal/bytealg.IndexByteString", "internal/abi.NoEscape"], unfollowed := true, recurses := true, named := ["internal/strconv.uint64pow10", "math/bits.deBruijn32tab", "math/bits.deBruijn64tab"], apart := false, laid := [("math/bits.deBruijn32tab", laid_math_bits_deBruijn32tab), ("math/bits.deBruijn64tab", laid_math_bits_deBruijn64tab), ("internal/strconv.uint64pow10", laid_internal_strconv_uint64pow10)] }
def FnWorldWriteSaid : Prop := fnWorldWriteRow.holds Tryz.pinned (OpenSpec.ofChange fnWorldWriteSpec)

/-- ITS FALSE NEIGHBOUR: 'it returns false'. Refute it at one input. -/
def fnWorldWriteWrong : ChangeSpec := { name := "fnWorldWrite", fn := fun _ => fun
  | [d] => { results := [.lit (.bool false)], args := [d] }
  | _ => none }
def FnWorldWriteWrongFalsely : Prop := fnWorldWriteRow.holds Tryz.pinned (OpenSpec.ofChange fnWorldWriteWrong)

/-- 'laws.FnWorldDo': WHATEVER THE INPUT: true; the input reads as it did. -/
def fnWorldDoSpec : ChangeSpec := { name := "fnWorldDo", fn := fun _ => fun
  | [d] => { results := [.lit (.bool true)], args := [d] }
  | _ => none }
def fnWorldDoRow : OpenClaim := { program := "ytodjmflbakfmjaagreatdoor", sum := "feff0594b34e2e66b03044829a70c471756dcd4191b8506c0892a55a8d411d6a", func := "loop.example/lamson/laws.FnWorldDo", spec := "fnWorldDo", inPlace := ["internal/bytealg.IndexByteString", "internal/abi.NoEscape"], unfollowed := true, recurses := true, named := ["internal/strconv.uint64pow10", "math/bits.deBruijn32tab", "math/bits.deBruijn64tab"], apart := false, laid := [("math/bits.deBruijn32tab", laid_math_bits_deBruijn32tab), ("math/bits.deBruijn64tab", laid_math_bits_deBruijn64tab), ("internal/strconv.uint64pow10", laid_internal_strconv_uint64pow10)] }
def FnWorldDoSaid : Prop := fnWorldDoRow.holds Tryz.pinned (OpenSpec.ofChange fnWorldDoSpec)

/-- ITS FALSE NEIGHBOUR: 'it returns false'. Refute it at one input. -/
def fnWorldDoWrong : ChangeSpec := { name := "fnWorldDo", fn := fun _ => fun
  | [d] => { results := [.lit (.bool false)], args := [d] }
  | _ => none }
def FnWorldDoWrongFalsely : Prop := fnWorldDoRow.holds Tryz.pinned (OpenSpec.ofChange fnWorldDoWrong)

/-- 'laws.FnWorldRounds': WHATEVER THE INPUT: true; the input reads as it did. -/
def fnWorldRoundsSpec : ChangeSpec := { name := "fnWorldRounds", fn := fun _ => fun
  | [d1, d2] => { results := [.lit (.bool true)], args := [d1, d2] }
  | _ => none }
def fnWorldRoundsRow : OpenClaim := { program := "ytodjmflbakfmjaagreatdoor", sum := "feff0594b34e2e66b03044829a70c471756dcd4191b8506c0892a55a8d411d6a", func := "loop.example/lamson/laws.FnWorldRounds", spec := "fnWorldRounds", inPlace := ["internal/bytealg.IndexByteString", "internal/abi.NoEscape"], unfollowed := true, recurses := true, named := ["internal/strconv.uint64pow10", "math/bits.deBruijn32tab", "math/bits.deBruijn64tab"], apart := false, laid := [("math/bits.deBruijn32tab", laid_math_bits_deBruijn32tab), ("math/bits.deBruijn64tab", laid_math_bits_deBruijn64tab), ("internal/strconv.uint64pow10", laid_internal_strconv_uint64pow10)] }
def FnWorldRoundsSaid : Prop := fnWorldRoundsRow.holds Tryz.pinned (OpenSpec.ofChange fnWorldRoundsSpec)

/-- ITS FALSE NEIGHBOUR: 'it returns false'. Refute it at one input. -/
def fnWorldRoundsWrong : ChangeSpec := { name := "fnWorldRounds", fn := fun _ => fun
  | [d1, d2] => { results := [.lit (.bool false)], args := [d1, d2] }
  | _ => none }
def FnWorldRoundsWrongFalsely : Prop := fnWorldRoundsRow.holds Tryz.pinned (OpenSpec.ofChange fnWorldRoundsWrong)

/-- 'laws.FnHearBad': WHATEVER THE INPUT: true; the input reads as it did. -/
def fnHearBadSpec : ChangeSpec := { name := "fnHearBad", fn := fun _ => fun
  | [d] => { results := [.lit (.bool true)], args := [d] }
  | _ => none }
def fnHearBadRow : OpenClaim := { program := "ytodjmflbakfmjaagreatdoor", sum := "feff0594b34e2e66b03044829a70c471756dcd4191b8506c0892a55a8d411d6a", func := "loop.example/lamson/laws.FnHearBad", spec := "fnHearBad", inPlace := ["internal/bytealg.IndexByteString", "internal/abi.NoEscape"], unfollowed := true, recurses := true, named := ["internal/strconv.uint64pow10", "math/bits.deBruijn32tab", "math/bits.deBruijn64tab"], apart := false, laid := [("math/bits.deBruijn32tab", laid_math_bits_deBruijn32tab), ("math/bits.deBruijn64tab", laid_math_bits_deBruijn64tab), ("internal/strconv.uint64pow10", laid_internal_strconv_uint64pow10)] }
def FnHearBadSaid : Prop := fnHearBadRow.holds Tryz.pinned (OpenSpec.ofChange fnHearBadSpec)

/-- ITS FALSE NEIGHBOUR: 'it returns false'. Refute it at one input. -/
def fnHearBadWrong : ChangeSpec := { name := "fnHearBad", fn := fun _ => fun
  | [d] => { results := [.lit (.bool false)], args := [d] }
  | _ => none }
def FnHearBadWrongFalsely : Prop := fnHearBadRow.holds Tryz.pinned (OpenSpec.ofChange fnHearBadWrong)

/- THE SECOND FORM. 'bulk': how many values and letters a reading holds, each counted each time it is reached (what is shared counts as often as it is met; a slice's spare places count too). A statement '..UptoSaid' is the law's where the arguments, and the package variables that the reading takes, are together of bulk at most 1048576: NARROWER than '..Said'. Prove '..Said' where nothing that the law and all that it calls make is longer than what came in: it says more and counts as full. Else prove '..UptoSaid'. A law counts once. -/
mutual
def uptoBulk {H : Type} : DataW H → Nat
  | .lit (.string bytes) => bytes.length + 1
  | .lit _ => 1
  | .nil => 1
  | .ptr d => uptoBulk d + 1
  | .slice elems spare => uptoBulkAll elems + uptoBulkAll spare + 1
  | .agg parts => uptoBulkAll parts + 1
  | .iface _ d => uptoBulk d + 1
  | .map entries => uptoBulkEntries entries + 1
  | .held _ => 1
def uptoBulkAll {H : Type} : List (DataW H) → Nat
  | [] => 0
  | d :: r => uptoBulk d + uptoBulkAll r
def uptoBulkEntries {H : Type} : List (Lit × DataW H) → Nat
  | [] => 0
  | x :: r => uptoBulkEntry x + uptoBulkEntries r
def uptoBulkEntry {H : Type} : Lit × DataW H → Nat
  | (.string bytes, d) => bytes.length + uptoBulk d + 1
  | (_, d) => uptoBulk d + 1
 end
def uptoSmall : (H : Type) → List (DataW H) → Bool := fun _ ds => decide (uptoBulkAll ds ≤ 1048576)
def OpenSpec.upto (s : _root_.Go.ChangeSpec) : _root_.Go.OpenSpec := { _root_.Go.OpenSpec.ofChange s with cond := some uptoSmall }

/-- 'laws.FnWorldSent', WHERE WHAT IT READS IS OF BULK AT MOST 1048576: true; the input reads as it did. -/
def fnWorldSentUptoRow : OpenClaim := { program := "ytodjmflbakfmjaagreatdoor", sum := "feff0594b34e2e66b03044829a70c471756dcd4191b8506c0892a55a8d411d6a", func := "loop.example/lamson/laws.FnWorldSent", spec := "fnWorldSent", inPlace := ["internal/bytealg.IndexByteString", "internal/abi.NoEscape"], unfollowed := true, recurses := true, named := ["internal/strconv.uint64pow10", "math/bits.deBruijn32tab", "math/bits.deBruijn64tab"], apart := false, laid := [("math/bits.deBruijn32tab", laid_math_bits_deBruijn32tab), ("math/bits.deBruijn64tab", laid_math_bits_deBruijn64tab), ("internal/strconv.uint64pow10", laid_internal_strconv_uint64pow10)], narrowed := true }
def FnWorldSentUptoSaid : Prop := fnWorldSentUptoRow.holds Tryz.pinned (OpenSpec.upto fnWorldSentSpec)

/-- 'laws.FnWorldWindow', WHERE WHAT IT READS IS OF BULK AT MOST 1048576: true; the input reads as it did. -/
def fnWorldWindowUptoRow : OpenClaim := { program := "ytodjmflbakfmjaagreatdoor", sum := "feff0594b34e2e66b03044829a70c471756dcd4191b8506c0892a55a8d411d6a", func := "loop.example/lamson/laws.FnWorldWindow", spec := "fnWorldWindow", inPlace := ["internal/bytealg.IndexByteString", "internal/abi.NoEscape"], unfollowed := true, recurses := true, named := ["internal/strconv.uint64pow10", "math/bits.deBruijn32tab", "math/bits.deBruijn64tab"], apart := false, laid := [("math/bits.deBruijn32tab", laid_math_bits_deBruijn32tab), ("math/bits.deBruijn64tab", laid_math_bits_deBruijn64tab), ("internal/strconv.uint64pow10", laid_internal_strconv_uint64pow10)], narrowed := true }
def FnWorldWindowUptoSaid : Prop := fnWorldWindowUptoRow.holds Tryz.pinned (OpenSpec.upto fnWorldWindowSpec)

/-- 'laws.FnWorldCalm', WHERE WHAT IT READS IS OF BULK AT MOST 1048576: true; the input reads as it did. -/
def fnWorldCalmUptoRow : OpenClaim := { program := "ytodjmflbakfmjaagreatdoor", sum := "feff0594b34e2e66b03044829a70c471756dcd4191b8506c0892a55a8d411d6a", func := "loop.example/lamson/laws.FnWorldCalm", spec := "fnWorldCalm", inPlace := ["internal/bytealg.IndexByteString", "internal/abi.NoEscape"], unfollowed := true, recurses := true, named := ["internal/strconv.uint64pow10", "math/bits.deBruijn32tab", "math/bits.deBruijn64tab"], apart := false, laid := [("math/bits.deBruijn32tab", laid_math_bits_deBruijn32tab), ("math/bits.deBruijn64tab", laid_math_bits_deBruijn64tab), ("internal/strconv.uint64pow10", laid_internal_strconv_uint64pow10)], narrowed := true }
def FnWorldCalmUptoSaid : Prop := fnWorldCalmUptoRow.holds Tryz.pinned (OpenSpec.upto fnWorldCalmSpec)

/-- 'laws.FnWorldOwn', WHERE WHAT IT READS IS OF BULK AT MOST 1048576: true; the input reads as it did. -/
def fnWorldOwnUptoRow : OpenClaim := { program := "ytodjmflbakfmjaagreatdoor", sum := "feff0594b34e2e66b03044829a70c471756dcd4191b8506c0892a55a8d411d6a", func := "loop.example/lamson/laws.FnWorldOwn", spec := "fnWorldOwn", inPlace := ["internal/bytealg.IndexByteString", "internal/abi.NoEscape"], unfollowed := true, recurses := true, named := ["internal/strconv.uint64pow10", "math/bits.deBruijn32tab", "math/bits.deBruijn64tab"], apart := false, laid := [("math/bits.deBruijn32tab", laid_math_bits_deBruijn32tab), ("math/bits.deBruijn64tab", laid_math_bits_deBruijn64tab), ("internal/strconv.uint64pow10", laid_internal_strconv_uint64pow10)], narrowed := true }
def FnWorldOwnUptoSaid : Prop := fnWorldOwnUptoRow.holds Tryz.pinned (OpenSpec.upto fnWorldOwnSpec)

/-- 'laws.FnWorldLeft', WHERE WHAT IT READS IS OF BULK AT MOST 1048576: true; the input reads as it did. -/
def fnWorldLeftUptoRow : OpenClaim := { program := "ytodjmflbakfmjaagreatdoor", sum := "feff0594b34e2e66b03044829a70c471756dcd4191b8506c0892a55a8d411d6a", func := "loop.example/lamson/laws.FnWorldLeft", spec := "fnWorldLeft", inPlace := ["internal/bytealg.IndexByteString", "internal/abi.NoEscape"], unfollowed := true, recurses := true, named := ["internal/strconv.uint64pow10", "math/bits.deBruijn32tab", "math/bits.deBruijn64tab"], apart := false, laid := [("math/bits.deBruijn32tab", laid_math_bits_deBruijn32tab), ("math/bits.deBruijn64tab", laid_math_bits_deBruijn64tab), ("internal/strconv.uint64pow10", laid_internal_strconv_uint64pow10)], narrowed := true }
def FnWorldLeftUptoSaid : Prop := fnWorldLeftUptoRow.holds Tryz.pinned (OpenSpec.upto fnWorldLeftSpec)

/-- 'laws.FnWorldIdle', WHERE WHAT IT READS IS OF BULK AT MOST 1048576: true; the input reads as it did. -/
def fnWorldIdleUptoRow : OpenClaim := { program := "ytodjmflbakfmjaagreatdoor", sum := "feff0594b34e2e66b03044829a70c471756dcd4191b8506c0892a55a8d411d6a", func := "loop.example/lamson/laws.FnWorldIdle", spec := "fnWorldIdle", inPlace := ["internal/bytealg.IndexByteString", "internal/abi.NoEscape"], unfollowed := true, recurses := true, named := ["internal/strconv.uint64pow10", "math/bits.deBruijn32tab", "math/bits.deBruijn64tab"], apart := false, laid := [("math/bits.deBruijn32tab", laid_math_bits_deBruijn32tab), ("math/bits.deBruijn64tab", laid_math_bits_deBruijn64tab), ("internal/strconv.uint64pow10", laid_internal_strconv_uint64pow10)], narrowed := true }
def FnWorldIdleUptoSaid : Prop := fnWorldIdleUptoRow.holds Tryz.pinned (OpenSpec.upto fnWorldIdleSpec)

/-- 'laws.FnWorldParts', WHERE WHAT IT READS IS OF BULK AT MOST 1048576: true; the input reads as it did. -/
def fnWorldPartsUptoRow : OpenClaim := { program := "ytodjmflbakfmjaagreatdoor", sum := "feff0594b34e2e66b03044829a70c471756dcd4191b8506c0892a55a8d411d6a", func := "loop.example/lamson/laws.FnWorldParts", spec := "fnWorldParts", inPlace := ["internal/bytealg.IndexByteString", "internal/abi.NoEscape"], unfollowed := true, recurses := true, named := ["internal/strconv.uint64pow10", "math/bits.deBruijn32tab", "math/bits.deBruijn64tab"], apart := false, laid := [("math/bits.deBruijn32tab", laid_math_bits_deBruijn32tab), ("math/bits.deBruijn64tab", laid_math_bits_deBruijn64tab), ("internal/strconv.uint64pow10", laid_internal_strconv_uint64pow10)], narrowed := true }
def FnWorldPartsUptoSaid : Prop := fnWorldPartsUptoRow.holds Tryz.pinned (OpenSpec.upto fnWorldPartsSpec)

/-- 'laws.FnWorldPass', WHERE WHAT IT READS IS OF BULK AT MOST 1048576: true; the input reads as it did. -/
def fnWorldPassUptoRow : OpenClaim := { program := "ytodjmflbakfmjaagreatdoor", sum := "feff0594b34e2e66b03044829a70c471756dcd4191b8506c0892a55a8d411d6a", func := "loop.example/lamson/laws.FnWorldPass", spec := "fnWorldPass", inPlace := ["internal/bytealg.IndexByteString", "internal/abi.NoEscape"], unfollowed := true, recurses := true, named := ["internal/strconv.uint64pow10", "math/bits.deBruijn32tab", "math/bits.deBruijn64tab"], apart := false, laid := [("math/bits.deBruijn32tab", laid_math_bits_deBruijn32tab), ("math/bits.deBruijn64tab", laid_math_bits_deBruijn64tab), ("internal/strconv.uint64pow10", laid_internal_strconv_uint64pow10)], narrowed := true }
def FnWorldPassUptoSaid : Prop := fnWorldPassUptoRow.holds Tryz.pinned (OpenSpec.upto fnWorldPassSpec)

/-- 'laws.FnWorldWrite', WHERE WHAT IT READS IS OF BULK AT MOST 1048576: true; the input reads as it did. -/
def fnWorldWriteUptoRow : OpenClaim := { program := "ytodjmflbakfmjaagreatdoor", sum := "feff0594b34e2e66b03044829a70c471756dcd4191b8506c0892a55a8d411d6a", func := "loop.example/lamson/laws.FnWorldWrite", spec := "fnWorldWrite", inPlace := ["internal/bytealg.IndexByteString", "internal/abi.NoEscape"], unfollowed := true, recurses := true, named := ["internal/strconv.uint64pow10", "math/bits.deBruijn32tab", "math/bits.deBruijn64tab"], apart := false, laid := [("math/bits.deBruijn32tab", laid_math_bits_deBruijn32tab), ("math/bits.deBruijn64tab", laid_math_bits_deBruijn64tab), ("internal/strconv.uint64pow10", laid_internal_strconv_uint64pow10)], narrowed := true }
def FnWorldWriteUptoSaid : Prop := fnWorldWriteUptoRow.holds Tryz.pinned (OpenSpec.upto fnWorldWriteSpec)

/-- 'laws.FnWorldDo', WHERE WHAT IT READS IS OF BULK AT MOST 1048576: true; the input reads as it did. -/
def fnWorldDoUptoRow : OpenClaim := { program := "ytodjmflbakfmjaagreatdoor", sum := "feff0594b34e2e66b03044829a70c471756dcd4191b8506c0892a55a8d411d6a", func := "loop.example/lamson/laws.FnWorldDo", spec := "fnWorldDo", inPlace := ["internal/bytealg.IndexByteString", "internal/abi.NoEscape"], unfollowed := true, recurses := true, named := ["internal/strconv.uint64pow10", "math/bits.deBruijn32tab", "math/bits.deBruijn64tab"], apart := false, laid := [("math/bits.deBruijn32tab", laid_math_bits_deBruijn32tab), ("math/bits.deBruijn64tab", laid_math_bits_deBruijn64tab), ("internal/strconv.uint64pow10", laid_internal_strconv_uint64pow10)], narrowed := true }
def FnWorldDoUptoSaid : Prop := fnWorldDoUptoRow.holds Tryz.pinned (OpenSpec.upto fnWorldDoSpec)

/-- 'laws.FnWorldRounds', WHERE WHAT IT READS IS OF BULK AT MOST 1048576: true; the input reads as it did. -/
def fnWorldRoundsUptoRow : OpenClaim := { program := "ytodjmflbakfmjaagreatdoor", sum := "feff0594b34e2e66b03044829a70c471756dcd4191b8506c0892a55a8d411d6a", func := "loop.example/lamson/laws.FnWorldRounds", spec := "fnWorldRounds", inPlace := ["internal/bytealg.IndexByteString", "internal/abi.NoEscape"], unfollowed := true, recurses := true, named := ["internal/strconv.uint64pow10", "math/bits.deBruijn32tab", "math/bits.deBruijn64tab"], apart := false, laid := [("math/bits.deBruijn32tab", laid_math_bits_deBruijn32tab), ("math/bits.deBruijn64tab", laid_math_bits_deBruijn64tab), ("internal/strconv.uint64pow10", laid_internal_strconv_uint64pow10)], narrowed := true }
def FnWorldRoundsUptoSaid : Prop := fnWorldRoundsUptoRow.holds Tryz.pinned (OpenSpec.upto fnWorldRoundsSpec)

/-- 'laws.FnHearBad', WHERE WHAT IT READS IS OF BULK AT MOST 1048576: true; the input reads as it did. -/
def fnHearBadUptoRow : OpenClaim := { program := "ytodjmflbakfmjaagreatdoor", sum := "feff0594b34e2e66b03044829a70c471756dcd4191b8506c0892a55a8d411d6a", func := "loop.example/lamson/laws.FnHearBad", spec := "fnHearBad", inPlace := ["internal/bytealg.IndexByteString", "internal/abi.NoEscape"], unfollowed := true, recurses := true, named := ["internal/strconv.uint64pow10", "math/bits.deBruijn32tab", "math/bits.deBruijn64tab"], apart := false, laid := [("math/bits.deBruijn32tab", laid_math_bits_deBruijn32tab), ("math/bits.deBruijn64tab", laid_math_bits_deBruijn64tab), ("internal/strconv.uint64pow10", laid_internal_strconv_uint64pow10)], narrowed := true }
def FnHearBadUptoSaid : Prop := fnHearBadUptoRow.holds Tryz.pinned (OpenSpec.upto fnHearBadSpec)

end Rows
end Go.Proofs.YtodjmflbakfmjaaGreatDoor
