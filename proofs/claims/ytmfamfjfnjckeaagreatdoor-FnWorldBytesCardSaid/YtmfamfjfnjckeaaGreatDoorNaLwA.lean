/- A part of the proof: contracts of functions, or plain facts on which these lean. -/
import Derived.Test.YtmfamfjfnjckeaaGreatDoorNa34
namespace Go.Proofs.YtmfamfjfnjckeaaGreatDoor
open Go
set_option linter.unusedVariables false
set_option linter.unusedSimpArgs false
set_option maxRecDepth 100000
set_option maxHeartbeats 16000000

section
open Go
theorem WoAt.upd0 {S S':List Blk} {b c d f:Nat} {w:Wo} (h:WoAt S b c d f w) (hu:Upd [] S S'):WoAt S' b c d f w:=⟨h.caller.upd hu (by simp) (by simp),h.answerer.upd hu (by simp) (by simp),h.ne1,h.ne2⟩
end
end Go.Proofs.YtmfamfjfnjckeaaGreatDoor
