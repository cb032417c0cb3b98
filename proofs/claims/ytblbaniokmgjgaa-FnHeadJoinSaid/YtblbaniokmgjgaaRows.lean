/-
  No cell of these rows narrows 'for every input' (looked for: loops, veiled, ifaces, maps, wideKeys, modest, calm, conditions, laid).
  DERIVED. THE GIVEN ROWS OF THIS SEAT. 4 by the template 'for every input the law returns true; each argument reads behind the call as it read before'; 0 by the template 'total and deterministic' (their statements: YtblbaniokmgjgaaTotals.lean).
  GIVEN WITH THE SEED: the statements are not yours to turn. If you find one false, say at which input.
  Laid BY PROGRAM, IN A SANDBOX (cutbox-rows.mjs): the forced cells as the released guide's own fill.sh prints them over the translation 29302378e4a8e6b7… (all of the seat's roots in one cut). By AI agents, Wed Nov 11 2026. No macro, syntax, notation, axiom, sorry.
-/
import Derived.Test.YtblbaniokmgjgaaChecked
import GoSem.Claim
import GoSem.ClaimJoined
import GoSem.ClaimMapViews
import Derived.JoinedTies
import Derived.KernelRfl
namespace Go.Proofs.Ytblbaniokmgjgaa
/- THE CELL 'sum', in the pinned program and in every row, IS THE sha256 OF THE DUMP (.gsa) THAT YtblbaniokmgjgaaProg.lean LOADS. Nothing in Lean hashes anything: it is a label: what it is worth is what the hold of that sum in a sandbox is worth. -/
noncomputable def Try.pinned : Pinned := { name := "ytblbaniokmgjgaa", sum := "29302378e4a8e6b74a04f37efbda6bd6ba415abd8c3e6485b6457d05fc6e1410", checked := Try.checked }
namespace Rows
def none {H : Type} : Left H := { results := [], args := [] }

/-- 'laws.FnExactHeadRead': WHATEVER THE INPUT: true; the input reads as it did. -/
def fnExactHeadReadSpec : ChangeSpec := { name := "fnExactHeadRead", fn := fun _ => fun
  | [d1, d2] => { results := [.lit (.bool true)], args := [d1, d2] }
  | _ => none }
def fnExactHeadReadRow : OpenClaim := { program := "ytblbaniokmgjgaa", sum := "29302378e4a8e6b74a04f37efbda6bd6ba415abd8c3e6485b6457d05fc6e1410", func := "loop.example/lamson/laws.FnExactHeadRead", spec := "fnExactHeadRead", inPlace := ["internal/bytealg.IndexByteString"], unfollowed := true, recurses := true, apart := false }
def FnExactHeadReadSaid : Prop := fnExactHeadReadRow.holds Try.pinned (OpenSpec.ofChange fnExactHeadReadSpec)

/-- ITS FALSE NEIGHBOUR: 'it returns false'. Refute it at one input. -/
def fnExactHeadReadWrong : ChangeSpec := { name := "fnExactHeadRead", fn := fun _ => fun
  | [d1, d2] => { results := [.lit (.bool false)], args := [d1, d2] }
  | _ => none }
def FnExactHeadReadWrongFalsely : Prop := fnExactHeadReadRow.holds Try.pinned (OpenSpec.ofChange fnExactHeadReadWrong)

/-- 'laws.FnHeadBad': WHATEVER THE INPUT: true; the input reads as it did. -/
def fnHeadBadSpec : ChangeSpec := { name := "fnHeadBad", fn := fun _ => fun
  | [d1, d2] => { results := [.lit (.bool true)], args := [d1, d2] }
  | _ => none }
def fnHeadBadRow : OpenClaim := { program := "ytblbaniokmgjgaa", sum := "29302378e4a8e6b74a04f37efbda6bd6ba415abd8c3e6485b6457d05fc6e1410", func := "loop.example/lamson/laws.FnHeadBad", spec := "fnHeadBad", inPlace := ["internal/bytealg.IndexByteString"], unfollowed := true, recurses := true, apart := false }
def FnHeadBadSaid : Prop := fnHeadBadRow.holds Try.pinned (OpenSpec.ofChange fnHeadBadSpec)

/-- ITS FALSE NEIGHBOUR: 'it returns false'. Refute it at one input. -/
def fnHeadBadWrong : ChangeSpec := { name := "fnHeadBad", fn := fun _ => fun
  | [d1, d2] => { results := [.lit (.bool false)], args := [d1, d2] }
  | _ => none }
def FnHeadBadWrongFalsely : Prop := fnHeadBadRow.holds Try.pinned (OpenSpec.ofChange fnHeadBadWrong)

/-- 'laws.FnHeadRead': WHATEVER THE INPUT: true; the input reads as it did. -/
def fnHeadReadSpec : ChangeSpec := { name := "fnHeadRead", fn := fun _ => fun
  | [d] => { results := [.lit (.bool true)], args := [d] }
  | _ => none }
def fnHeadReadRow : OpenClaim := { program := "ytblbaniokmgjgaa", sum := "29302378e4a8e6b74a04f37efbda6bd6ba415abd8c3e6485b6457d05fc6e1410", func := "loop.example/lamson/laws.FnHeadRead", spec := "fnHeadRead", inPlace := ["internal/bytealg.IndexByteString"], unfollowed := true, recurses := true, apart := false }
def FnHeadReadSaid : Prop := fnHeadReadRow.holds Try.pinned (OpenSpec.ofChange fnHeadReadSpec)

/-- ITS FALSE NEIGHBOUR: 'it returns false'. Refute it at one input. -/
def fnHeadReadWrong : ChangeSpec := { name := "fnHeadRead", fn := fun _ => fun
  | [d] => { results := [.lit (.bool false)], args := [d] }
  | _ => none }
def FnHeadReadWrongFalsely : Prop := fnHeadReadRow.holds Try.pinned (OpenSpec.ofChange fnHeadReadWrong)

/-- 'laws.FnHeadJoin': WHATEVER THE INPUT: true; the input reads as it did. -/
def fnHeadJoinSpec : ChangeSpec := { name := "fnHeadJoin", fn := fun _ => fun
  | [d1, d2] => { results := [.lit (.bool true)], args := [d1, d2] }
  | _ => none }
def fnHeadJoinRow : OpenClaim := { program := "ytblbaniokmgjgaa", sum := "29302378e4a8e6b74a04f37efbda6bd6ba415abd8c3e6485b6457d05fc6e1410", func := "loop.example/lamson/laws.FnHeadJoin", spec := "fnHeadJoin", inPlace := ["internal/bytealg.IndexByteString"], unfollowed := true, recurses := true, apart := false }
def FnHeadJoinSaid : Prop := fnHeadJoinRow.holds Try.pinned (OpenSpec.ofChange fnHeadJoinSpec)

/-- ITS FALSE NEIGHBOUR: 'it returns false'. Refute it at one input. -/
def fnHeadJoinWrong : ChangeSpec := { name := "fnHeadJoin", fn := fun _ => fun
  | [d1, d2] => { results := [.lit (.bool false)], args := [d1, d2] }
  | _ => none }
def FnHeadJoinWrongFalsely : Prop := fnHeadJoinRow.holds Try.pinned (OpenSpec.ofChange fnHeadJoinWrong)

/- THE SECOND FORM. 'bulk': how many values and letters a reading holds, each counted each time it is reached (what is shared counts as often as it is met; a slice's spare places count too). A statement '..UptoSaid' is the law's where the arguments, and the package variables that the reading takes, are together of bulk at most 1048576: NARROWER than '..Said'. Prove '..Said' where nothing that the law and all that it calls make is longer than what came in: it says more and counts as full. Else prove '..UptoSaid'. A law counts once. -/
mutual
def uptoBulk {H : Type} : DataW H → Nat
  | .lit (.string bytes) => bytes.length + 1
  | .lit _ => 1
  | .nil => 1
  | .ptr d => uptoBulk d + 1
  | .slice elems spare => uptoBulkAll elems + uptoBulkAll spare + 1
  | .agg parts => uptoBulkAll parts + 1
  | .iface _ d => uptoBulk d + 1
  | .map entries => uptoBulkEntries entries + 1
  | .held _ => 1
def uptoBulkAll {H : Type} : List (DataW H) → Nat
  | [] => 0
  | d :: r => uptoBulk d + uptoBulkAll r
def uptoBulkEntries {H : Type} : List (Lit × DataW H) → Nat
  | [] => 0
  | x :: r => uptoBulkEntry x + uptoBulkEntries r
def uptoBulkEntry {H : Type} : Lit × DataW H → Nat
  | (.string bytes, d) => bytes.length + uptoBulk d + 1
  | (_, d) => uptoBulk d + 1
 end
def uptoSmall : (H : Type) → List (DataW H) → Bool := fun _ ds => decide (uptoBulkAll ds ≤ 1048576)
def OpenSpec.upto (s : _root_.Go.ChangeSpec) : _root_.Go.OpenSpec := { _root_.Go.OpenSpec.ofChange s with cond := some uptoSmall }

/-- 'laws.FnExactHeadRead', WHERE WHAT IT READS IS OF BULK AT MOST 1048576: true; the input reads as it did. -/
def fnExactHeadReadUptoRow : OpenClaim := { program := "ytblbaniokmgjgaa", sum := "29302378e4a8e6b74a04f37efbda6bd6ba415abd8c3e6485b6457d05fc6e1410", func := "loop.example/lamson/laws.FnExactHeadRead", spec := "fnExactHeadRead", inPlace := ["internal/bytealg.IndexByteString"], unfollowed := true, recurses := true, apart := false, narrowed := true }
def FnExactHeadReadUptoSaid : Prop := fnExactHeadReadUptoRow.holds Try.pinned (OpenSpec.upto fnExactHeadReadSpec)

/-- 'laws.FnHeadBad', WHERE WHAT IT READS IS OF BULK AT MOST 1048576: true; the input reads as it did. -/
def fnHeadBadUptoRow : OpenClaim := { program := "ytblbaniokmgjgaa", sum := "29302378e4a8e6b74a04f37efbda6bd6ba415abd8c3e6485b6457d05fc6e1410", func := "loop.example/lamson/laws.FnHeadBad", spec := "fnHeadBad", inPlace := ["internal/bytealg.IndexByteString"], unfollowed := true, recurses := true, apart := false, narrowed := true }
def FnHeadBadUptoSaid : Prop := fnHeadBadUptoRow.holds Try.pinned (OpenSpec.upto fnHeadBadSpec)

/-- 'laws.FnHeadRead', WHERE WHAT IT READS IS OF BULK AT MOST 1048576: true; the input reads as it did. -/
def fnHeadReadUptoRow : OpenClaim := { program := "ytblbaniokmgjgaa", sum := "29302378e4a8e6b74a04f37efbda6bd6ba415abd8c3e6485b6457d05fc6e1410", func := "loop.example/lamson/laws.FnHeadRead", spec := "fnHeadRead", inPlace := ["internal/bytealg.IndexByteString"], unfollowed := true, recurses := true, apart := false, narrowed := true }
def FnHeadReadUptoSaid : Prop := fnHeadReadUptoRow.holds Try.pinned (OpenSpec.upto fnHeadReadSpec)

/-- 'laws.FnHeadJoin', WHERE WHAT IT READS IS OF BULK AT MOST 1048576: true; the input reads as it did. -/
def fnHeadJoinUptoRow : OpenClaim := { program := "ytblbaniokmgjgaa", sum := "29302378e4a8e6b74a04f37efbda6bd6ba415abd8c3e6485b6457d05fc6e1410", func := "loop.example/lamson/laws.FnHeadJoin", spec := "fnHeadJoin", inPlace := ["internal/bytealg.IndexByteString"], unfollowed := true, recurses := true, apart := false, narrowed := true }
def FnHeadJoinUptoSaid : Prop := fnHeadJoinUptoRow.holds Try.pinned (OpenSpec.upto fnHeadJoinSpec)

end Rows
end Go.Proofs.Ytblbaniokmgjgaa
