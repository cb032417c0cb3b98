/- A part of the proof: contracts of functions, or plain facts on which these lean. -/
import Derived.Test.YtmfamfjfnjckeaaGreatDoorNa35
import Derived.Test.YtmfamfjfnjckeaaGreatDoorNa39
import Derived.Test.YtmfamfjfnjckeaaGreatDoorNaLwA
namespace Go.Proofs.YtmfamfjfnjckeaaGreatDoor
open Go
set_option linter.unusedVariables false
set_option linter.unusedSimpArgs false
set_option maxRecDepth 100000
set_option maxHeartbeats 16000000

section
open Go
theorem EnAt.set0 {S:List Blk} {b c p:Nat} {e:En} {cs:List V} (B:Blk) (h:EnAt S b c e) (hp:S[p]?=some (.cells 0 cs)):EnAt (S.set p B) b c e:=by
 refine h.upd ((Upd.refl [p] S).set B (.inr (by simp))) ?_ ?_
 ·intro q
  rw [List.mem_singleton] at q
  subst q
  have:=h.1.symm.trans hp
  simp at this
 ·intro q
  rw [List.mem_singleton] at q
  subst q
  have:=h.2.symm.trans hp
  simp at this
theorem WoAt.set0 {S:List Blk} {b c d f p:Nat} {w:Wo} {cs:List V} (B:Blk) (h:WoAt S b c d f w) (hp:S[p]?=some (.cells 0 cs)):WoAt (S.set p B) b c d f w:=⟨h.caller.set0 B hp,h.answerer.set0 B hp,h.ne1,h.ne2⟩
end
end Go.Proofs.YtmfamfjfnjckeaaGreatDoor
