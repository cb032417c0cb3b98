/-
  No cell of these rows narrows 'for every input' (looked for: loops, veiled, ifaces, maps, wideKeys, modest, calm, conditions, laid).
  DERIVED. THE GIVEN ROWS OF THIS SEAT. 4 by the template 'for every input the law returns true; each argument reads behind the call as it read before'; 0 by the template 'total and deterministic' (their statements: YtdankbhcjefilaaTotals.lean).
  GIVEN WITH THE SEED: the statements are not yours to turn. If you find one false, say at which input.
  Laid BY PROGRAM, IN A SANDBOX (cutbox-rows.mjs): the forced cells as the released guide's own fill.sh prints them over the translation b0aa7397e2358069… (all of the seat's roots in one cut). By AI agents, Wed Nov 11 2026. No macro, syntax, notation, axiom, sorry.
-/
import Derived.Test.YtdankbhcjefilaaChecked
import GoSem.Claim
import GoSem.ClaimJoined
import GoSem.ClaimMapViews
import Derived.JoinedTies
import Derived.KernelRfl
namespace Go.Proofs.Ytdankbhcjefilaa
/- THE CELL 'sum', in the pinned program and in every row, IS THE sha256 OF THE DUMP (.gsa) THAT YtdankbhcjefilaaProg.lean LOADS. Nothing in Lean hashes anything: it is a label: what it is worth is what the hold of that sum in a sandbox is worth. -/
noncomputable def Try.pinned : Pinned := { name := "ytdankbhcjefilaa", sum := "b0aa7397e23580696bb3f65cc5be08ea80355908c05dd44539924ec807dd5dde", checked := Try.checked }
namespace Rows
def none {H : Type} : Left H := { results := [], args := [] }

/-- 'laws.FnHeadNever': WHATEVER THE INPUT: true; the input reads as it did. -/
def fnHeadNeverSpec : ChangeSpec := { name := "fnHeadNever", fn := fun _ => fun
  | [d] => { results := [.lit (.bool true)], args := [d] }
  | _ => none }
def fnHeadNeverRow : OpenClaim := { program := "ytdankbhcjefilaa", sum := "b0aa7397e23580696bb3f65cc5be08ea80355908c05dd44539924ec807dd5dde", func := "loop.example/lamson/laws.FnHeadNever", spec := "fnHeadNever", inPlace := ["internal/bytealg.IndexByteString"], unfollowed := true, recurses := true, apart := false }
def FnHeadNeverSaid : Prop := fnHeadNeverRow.holds Try.pinned (OpenSpec.ofChange fnHeadNeverSpec)

/-- ITS FALSE NEIGHBOUR: 'it returns false'. Refute it at one input. -/
def fnHeadNeverWrong : ChangeSpec := { name := "fnHeadNever", fn := fun _ => fun
  | [d] => { results := [.lit (.bool false)], args := [d] }
  | _ => none }
def FnHeadNeverWrongFalsely : Prop := fnHeadNeverRow.holds Try.pinned (OpenSpec.ofChange fnHeadNeverWrong)

/-- 'laws.FnHeadNone': WHATEVER THE INPUT: true; the input reads as it did. -/
def fnHeadNoneSpec : ChangeSpec := { name := "fnHeadNone", fn := fun _ => fun
  | [d] => { results := [.lit (.bool true)], args := [d] }
  | _ => none }
def fnHeadNoneRow : OpenClaim := { program := "ytdankbhcjefilaa", sum := "b0aa7397e23580696bb3f65cc5be08ea80355908c05dd44539924ec807dd5dde", func := "loop.example/lamson/laws.FnHeadNone", spec := "fnHeadNone", inPlace := ["internal/bytealg.IndexByteString"], unfollowed := true, recurses := true, apart := false }
def FnHeadNoneSaid : Prop := fnHeadNoneRow.holds Try.pinned (OpenSpec.ofChange fnHeadNoneSpec)

/-- ITS FALSE NEIGHBOUR: 'it returns false'. Refute it at one input. -/
def fnHeadNoneWrong : ChangeSpec := { name := "fnHeadNone", fn := fun _ => fun
  | [d] => { results := [.lit (.bool false)], args := [d] }
  | _ => none }
def FnHeadNoneWrongFalsely : Prop := fnHeadNoneRow.holds Try.pinned (OpenSpec.ofChange fnHeadNoneWrong)

/-- 'laws.FnHeadSmall': WHATEVER THE INPUT: true; the input reads as it did. -/
def fnHeadSmallSpec : ChangeSpec := { name := "fnHeadSmall", fn := fun _ => fun
  | [d] => { results := [.lit (.bool true)], args := [d] }
  | _ => none }
def fnHeadSmallRow : OpenClaim := { program := "ytdankbhcjefilaa", sum := "b0aa7397e23580696bb3f65cc5be08ea80355908c05dd44539924ec807dd5dde", func := "loop.example/lamson/laws.FnHeadSmall", spec := "fnHeadSmall", inPlace := ["internal/bytealg.IndexByteString"], unfollowed := true, recurses := true, apart := false }
def FnHeadSmallSaid : Prop := fnHeadSmallRow.holds Try.pinned (OpenSpec.ofChange fnHeadSmallSpec)

/-- ITS FALSE NEIGHBOUR: 'it returns false'. Refute it at one input. -/
def fnHeadSmallWrong : ChangeSpec := { name := "fnHeadSmall", fn := fun _ => fun
  | [d] => { results := [.lit (.bool false)], args := [d] }
  | _ => none }
def FnHeadSmallWrongFalsely : Prop := fnHeadSmallRow.holds Try.pinned (OpenSpec.ofChange fnHeadSmallWrong)

/-- 'laws.FnHeadTwo': WHATEVER THE INPUT: true; the input reads as it did. -/
def fnHeadTwoSpec : ChangeSpec := { name := "fnHeadTwo", fn := fun _ => fun
  | [d1, d2] => { results := [.lit (.bool true)], args := [d1, d2] }
  | _ => none }
def fnHeadTwoRow : OpenClaim := { program := "ytdankbhcjefilaa", sum := "b0aa7397e23580696bb3f65cc5be08ea80355908c05dd44539924ec807dd5dde", func := "loop.example/lamson/laws.FnHeadTwo", spec := "fnHeadTwo", inPlace := ["internal/bytealg.IndexByteString"], unfollowed := true, recurses := true, apart := false }
def FnHeadTwoSaid : Prop := fnHeadTwoRow.holds Try.pinned (OpenSpec.ofChange fnHeadTwoSpec)

/-- ITS FALSE NEIGHBOUR: 'it returns false'. Refute it at one input. -/
def fnHeadTwoWrong : ChangeSpec := { name := "fnHeadTwo", fn := fun _ => fun
  | [d1, d2] => { results := [.lit (.bool false)], args := [d1, d2] }
  | _ => none }
def FnHeadTwoWrongFalsely : Prop := fnHeadTwoRow.holds Try.pinned (OpenSpec.ofChange fnHeadTwoWrong)

/- THE SECOND FORM. 'bulk': how many values and letters a reading holds, each counted each time it is reached (what is shared counts as often as it is met; a slice's spare places count too). A statement '..UptoSaid' is the law's where the arguments, and the package variables that the reading takes, are together of bulk at most 1048576: NARROWER than '..Said'. Prove '..Said' where nothing that the law and all that it calls make is longer than what came in: it says more and counts as full. Else prove '..UptoSaid'. A law counts once. -/
mutual
def uptoBulk {H : Type} : DataW H → Nat
  | .lit (.string bytes) => bytes.length + 1
  | .lit _ => 1
  | .nil => 1
  | .ptr d => uptoBulk d + 1
  | .slice elems spare => uptoBulkAll elems + uptoBulkAll spare + 1
  | .agg parts => uptoBulkAll parts + 1
  | .iface _ d => uptoBulk d + 1
  | .map entries => uptoBulkEntries entries + 1
  | .held _ => 1
def uptoBulkAll {H : Type} : List (DataW H) → Nat
  | [] => 0
  | d :: r => uptoBulk d + uptoBulkAll r
def uptoBulkEntries {H : Type} : List (Lit × DataW H) → Nat
  | [] => 0
  | x :: r => uptoBulkEntry x + uptoBulkEntries r
def uptoBulkEntry {H : Type} : Lit × DataW H → Nat
  | (.string bytes, d) => bytes.length + uptoBulk d + 1
  | (_, d) => uptoBulk d + 1
 end
def uptoSmall : (H : Type) → List (DataW H) → Bool := fun _ ds => decide (uptoBulkAll ds ≤ 1048576)
def OpenSpec.upto (s : _root_.Go.ChangeSpec) : _root_.Go.OpenSpec := { _root_.Go.OpenSpec.ofChange s with cond := some uptoSmall }

/-- 'laws.FnHeadNever', WHERE WHAT IT READS IS OF BULK AT MOST 1048576: true; the input reads as it did. -/
def fnHeadNeverUptoRow : OpenClaim := { program := "ytdankbhcjefilaa", sum := "b0aa7397e23580696bb3f65cc5be08ea80355908c05dd44539924ec807dd5dde", func := "loop.example/lamson/laws.FnHeadNever", spec := "fnHeadNever", inPlace := ["internal/bytealg.IndexByteString"], unfollowed := true, recurses := true, apart := false, narrowed := true }
def FnHeadNeverUptoSaid : Prop := fnHeadNeverUptoRow.holds Try.pinned (OpenSpec.upto fnHeadNeverSpec)

/-- 'laws.FnHeadNone', WHERE WHAT IT READS IS OF BULK AT MOST 1048576: true; the input reads as it did. -/
def fnHeadNoneUptoRow : OpenClaim := { program := "ytdankbhcjefilaa", sum := "b0aa7397e23580696bb3f65cc5be08ea80355908c05dd44539924ec807dd5dde", func := "loop.example/lamson/laws.FnHeadNone", spec := "fnHeadNone", inPlace := ["internal/bytealg.IndexByteString"], unfollowed := true, recurses := true, apart := false, narrowed := true }
def FnHeadNoneUptoSaid : Prop := fnHeadNoneUptoRow.holds Try.pinned (OpenSpec.upto fnHeadNoneSpec)

/-- 'laws.FnHeadSmall', WHERE WHAT IT READS IS OF BULK AT MOST 1048576: true; the input reads as it did. -/
def fnHeadSmallUptoRow : OpenClaim := { program := "ytdankbhcjefilaa", sum := "b0aa7397e23580696bb3f65cc5be08ea80355908c05dd44539924ec807dd5dde", func := "loop.example/lamson/laws.FnHeadSmall", spec := "fnHeadSmall", inPlace := ["internal/bytealg.IndexByteString"], unfollowed := true, recurses := true, apart := false, narrowed := true }
def FnHeadSmallUptoSaid : Prop := fnHeadSmallUptoRow.holds Try.pinned (OpenSpec.upto fnHeadSmallSpec)

/-- 'laws.FnHeadTwo', WHERE WHAT IT READS IS OF BULK AT MOST 1048576: true; the input reads as it did. -/
def fnHeadTwoUptoRow : OpenClaim := { program := "ytdankbhcjefilaa", sum := "b0aa7397e23580696bb3f65cc5be08ea80355908c05dd44539924ec807dd5dde", func := "loop.example/lamson/laws.FnHeadTwo", spec := "fnHeadTwo", inPlace := ["internal/bytealg.IndexByteString"], unfollowed := true, recurses := true, apart := false, narrowed := true }
def FnHeadTwoUptoSaid : Prop := fnHeadTwoUptoRow.holds Try.pinned (OpenSpec.upto fnHeadTwoSpec)

end Rows
end Go.Proofs.Ytdankbhcjefilaa
