/-
  No cell of these rows narrows 'for every input' (looked for: loops, veiled, ifaces, maps, wideKeys, modest, calm, conditions, laid).
  DERIVED. THE GIVEN ROWS OF THIS SEAT. 4 by the template 'for every input the law returns true; each argument reads behind the call as it read before'; 0 by the template 'total and deterministic' (their statements: YtdplmibomopkcaaGreatTotals.lean).
  GIVEN WITH THE SEED: the statements are not yours to turn. If you find one false, say at which input.
  Laid BY PROGRAM, IN A SANDBOX (cutbox-rows.mjs): the forced cells as the released guide's own fill.sh prints them over the translation 4970f04795df73f8… (all of the seat's roots in one cut). By AI agents, Wed Nov 11 2026. No macro, syntax, notation, axiom, sorry.
-/
import Derived.Test.YtdplmibomopkcaaGreatChecked
import GoSem.Claim
import GoSem.ClaimJoined
import GoSem.ClaimMapViews
import Derived.JoinedTies
import Derived.KernelRfl
namespace Go.Proofs.YtdplmibomopkcaaGreat
/- THE CELL 'sum', in the pinned program and in every row, IS THE sha256 OF THE DUMP (.gsa) THAT YtdplmibomopkcaaGreatProg.lean LOADS. Nothing in Lean hashes anything: it is a label: what it is worth is what the hold of that sum in a sandbox is worth. -/
noncomputable def Tryz.pinned : Pinned := { name := "ytdplmibomopkcaagreat", sum := "4970f04795df73f833df0e6ac12a0b4150b6f71a443e405e5d165bb1aa3d1c39", checked := Tryz.checked }
namespace Rows
def none {H : Type} : Left H := { results := [], args := [] }

/-- 'laws.FnWriteOnce': WHATEVER THE INPUT: true; the input reads as it did. -/
def fnWriteOnceSpec : ChangeSpec := { name := "fnWriteOnce", fn := fun _ => fun
  | [d] => { results := [.lit (.bool true)], args := [d] }
  | _ => none }
def fnWriteOnceRow : OpenClaim := { program := "ytdplmibomopkcaagreat", sum := "4970f04795df73f833df0e6ac12a0b4150b6f71a443e405e5d165bb1aa3d1c39", func := "loop.example/lamson/laws.FnWriteOnce", spec := "fnWriteOnce", inPlace := ["internal/bytealg.IndexByteString", "internal/abi.NoEscape"], unfollowed := true, recurses := true, apart := false }
def FnWriteOnceSaid : Prop := fnWriteOnceRow.holds Tryz.pinned (OpenSpec.ofChange fnWriteOnceSpec)

/-- ITS FALSE NEIGHBOUR: 'it returns false'. Refute it at one input. -/
def fnWriteOnceWrong : ChangeSpec := { name := "fnWriteOnce", fn := fun _ => fun
  | [d] => { results := [.lit (.bool false)], args := [d] }
  | _ => none }
def FnWriteOnceWrongFalsely : Prop := fnWriteOnceRow.holds Tryz.pinned (OpenSpec.ofChange fnWriteOnceWrong)

/-- 'laws.FnLeaveTwice': WHATEVER THE INPUT: true; the input reads as it did. -/
def fnLeaveTwiceSpec : ChangeSpec := { name := "fnLeaveTwice", fn := fun _ => fun
  | [d] => { results := [.lit (.bool true)], args := [d] }
  | _ => none }
def fnLeaveTwiceRow : OpenClaim := { program := "ytdplmibomopkcaagreat", sum := "4970f04795df73f833df0e6ac12a0b4150b6f71a443e405e5d165bb1aa3d1c39", func := "loop.example/lamson/laws.FnLeaveTwice", spec := "fnLeaveTwice", inPlace := ["internal/bytealg.IndexByteString", "internal/abi.NoEscape"], unfollowed := true, recurses := true, apart := false }
def FnLeaveTwiceSaid : Prop := fnLeaveTwiceRow.holds Tryz.pinned (OpenSpec.ofChange fnLeaveTwiceSpec)

/-- ITS FALSE NEIGHBOUR: 'it returns false'. Refute it at one input. -/
def fnLeaveTwiceWrong : ChangeSpec := { name := "fnLeaveTwice", fn := fun _ => fun
  | [d] => { results := [.lit (.bool false)], args := [d] }
  | _ => none }
def FnLeaveTwiceWrongFalsely : Prop := fnLeaveTwiceRow.holds Tryz.pinned (OpenSpec.ofChange fnLeaveTwiceWrong)

/-- 'laws.FnWriteFrames': WHATEVER THE INPUT: true; the input reads as it did. -/
def fnWriteFramesSpec : ChangeSpec := { name := "fnWriteFrames", fn := fun _ => fun
  | [d] => { results := [.lit (.bool true)], args := [d] }
  | _ => none }
def fnWriteFramesRow : OpenClaim := { program := "ytdplmibomopkcaagreat", sum := "4970f04795df73f833df0e6ac12a0b4150b6f71a443e405e5d165bb1aa3d1c39", func := "loop.example/lamson/laws.FnWriteFrames", spec := "fnWriteFrames", inPlace := ["internal/bytealg.IndexByteString", "internal/abi.NoEscape"], unfollowed := true, recurses := true, apart := false }
def FnWriteFramesSaid : Prop := fnWriteFramesRow.holds Tryz.pinned (OpenSpec.ofChange fnWriteFramesSpec)

/-- ITS FALSE NEIGHBOUR: 'it returns false'. Refute it at one input. -/
def fnWriteFramesWrong : ChangeSpec := { name := "fnWriteFrames", fn := fun _ => fun
  | [d] => { results := [.lit (.bool false)], args := [d] }
  | _ => none }
def FnWriteFramesWrongFalsely : Prop := fnWriteFramesRow.holds Tryz.pinned (OpenSpec.ofChange fnWriteFramesWrong)

/-- 'laws.FnWriteText': WHATEVER THE INPUT: true; the input reads as it did. -/
def fnWriteTextSpec : ChangeSpec := { name := "fnWriteText", fn := fun _ => fun
  | [d] => { results := [.lit (.bool true)], args := [d] }
  | _ => none }
def fnWriteTextRow : OpenClaim := { program := "ytdplmibomopkcaagreat", sum := "4970f04795df73f833df0e6ac12a0b4150b6f71a443e405e5d165bb1aa3d1c39", func := "loop.example/lamson/laws.FnWriteText", spec := "fnWriteText", inPlace := ["internal/bytealg.IndexByteString", "internal/abi.NoEscape"], unfollowed := true, recurses := true, apart := false }
def FnWriteTextSaid : Prop := fnWriteTextRow.holds Tryz.pinned (OpenSpec.ofChange fnWriteTextSpec)

/-- ITS FALSE NEIGHBOUR: 'it returns false'. Refute it at one input. -/
def fnWriteTextWrong : ChangeSpec := { name := "fnWriteText", fn := fun _ => fun
  | [d] => { results := [.lit (.bool false)], args := [d] }
  | _ => none }
def FnWriteTextWrongFalsely : Prop := fnWriteTextRow.holds Tryz.pinned (OpenSpec.ofChange fnWriteTextWrong)

/- THE SECOND FORM. 'bulk': how many values and letters a reading holds, each counted each time it is reached (what is shared counts as often as it is met; a slice's spare places count too). A statement '..UptoSaid' is the law's where the arguments, and the package variables that the reading takes, are together of bulk at most 1048576: NARROWER than '..Said'. Prove '..Said' where nothing that the law and all that it calls make is longer than what came in: it says more and counts as full. Else prove '..UptoSaid'. A law counts once. -/
mutual
def uptoBulk {H : Type} : DataW H → Nat
  | .lit (.string bytes) => bytes.length + 1
  | .lit _ => 1
  | .nil => 1
  | .ptr d => uptoBulk d + 1
  | .slice elems spare => uptoBulkAll elems + uptoBulkAll spare + 1
  | .agg parts => uptoBulkAll parts + 1
  | .iface _ d => uptoBulk d + 1
  | .map entries => uptoBulkEntries entries + 1
  | .held _ => 1
def uptoBulkAll {H : Type} : List (DataW H) → Nat
  | [] => 0
  | d :: r => uptoBulk d + uptoBulkAll r
def uptoBulkEntries {H : Type} : List (Lit × DataW H) → Nat
  | [] => 0
  | x :: r => uptoBulkEntry x + uptoBulkEntries r
def uptoBulkEntry {H : Type} : Lit × DataW H → Nat
  | (.string bytes, d) => bytes.length + uptoBulk d + 1
  | (_, d) => uptoBulk d + 1
 end
def uptoSmall : (H : Type) → List (DataW H) → Bool := fun _ ds => decide (uptoBulkAll ds ≤ 1048576)
def OpenSpec.upto (s : _root_.Go.ChangeSpec) : _root_.Go.OpenSpec := { _root_.Go.OpenSpec.ofChange s with cond := some uptoSmall }

/-- 'laws.FnWriteOnce', WHERE WHAT IT READS IS OF BULK AT MOST 1048576: true; the input reads as it did. -/
def fnWriteOnceUptoRow : OpenClaim := { program := "ytdplmibomopkcaagreat", sum := "4970f04795df73f833df0e6ac12a0b4150b6f71a443e405e5d165bb1aa3d1c39", func := "loop.example/lamson/laws.FnWriteOnce", spec := "fnWriteOnce", inPlace := ["internal/bytealg.IndexByteString", "internal/abi.NoEscape"], unfollowed := true, recurses := true, apart := false, narrowed := true }
def FnWriteOnceUptoSaid : Prop := fnWriteOnceUptoRow.holds Tryz.pinned (OpenSpec.upto fnWriteOnceSpec)

/-- 'laws.FnLeaveTwice', WHERE WHAT IT READS IS OF BULK AT MOST 1048576: true; the input reads as it did. -/
def fnLeaveTwiceUptoRow : OpenClaim := { program := "ytdplmibomopkcaagreat", sum := "4970f04795df73f833df0e6ac12a0b4150b6f71a443e405e5d165bb1aa3d1c39", func := "loop.example/lamson/laws.FnLeaveTwice", spec := "fnLeaveTwice", inPlace := ["internal/bytealg.IndexByteString", "internal/abi.NoEscape"], unfollowed := true, recurses := true, apart := false, narrowed := true }
def FnLeaveTwiceUptoSaid : Prop := fnLeaveTwiceUptoRow.holds Tryz.pinned (OpenSpec.upto fnLeaveTwiceSpec)

/-- 'laws.FnWriteFrames', WHERE WHAT IT READS IS OF BULK AT MOST 1048576: true; the input reads as it did. -/
def fnWriteFramesUptoRow : OpenClaim := { program := "ytdplmibomopkcaagreat", sum := "4970f04795df73f833df0e6ac12a0b4150b6f71a443e405e5d165bb1aa3d1c39", func := "loop.example/lamson/laws.FnWriteFrames", spec := "fnWriteFrames", inPlace := ["internal/bytealg.IndexByteString", "internal/abi.NoEscape"], unfollowed := true, recurses := true, apart := false, narrowed := true }
def FnWriteFramesUptoSaid : Prop := fnWriteFramesUptoRow.holds Tryz.pinned (OpenSpec.upto fnWriteFramesSpec)

/-- 'laws.FnWriteText', WHERE WHAT IT READS IS OF BULK AT MOST 1048576: true; the input reads as it did. -/
def fnWriteTextUptoRow : OpenClaim := { program := "ytdplmibomopkcaagreat", sum := "4970f04795df73f833df0e6ac12a0b4150b6f71a443e405e5d165bb1aa3d1c39", func := "loop.example/lamson/laws.FnWriteText", spec := "fnWriteText", inPlace := ["internal/bytealg.IndexByteString", "internal/abi.NoEscape"], unfollowed := true, recurses := true, apart := false, narrowed := true }
def FnWriteTextUptoSaid : Prop := fnWriteTextUptoRow.holds Tryz.pinned (OpenSpec.upto fnWriteTextSpec)

end Rows
end Go.Proofs.YtdplmibomopkcaaGreat
