/- A part of the proof: contracts of functions, or plain facts on which these lean. -/
import Derived.Test.YtnhifbfbnofkcaaGreatDoorMa38
import Derived.Test.YtnhifbfbnofkcaaGreatDoorMaLwA
namespace Go.Proofs.YtnhifbfbnofkcaaGreatDoor
open Go
set_option linter.unusedVariables false
set_option linter.unusedSimpArgs false
set_option maxRecDepth 100000
set_option maxHeartbeats 16000000

section
open Go
theorem Pl.b {w:Wo} (h:Pl w):WoB w:=h.all.1.b (by decide)
theorem play_b (l:List Ev):WoB (worldPlayM l).1:=by
 unfold worldPlayM
 split
 ·exact ⟨⟨by simp [wo0,en0],by simp [wo0,en0],by simp [wo0,en0],⟨by simp [wo0,en0],by simp [wo0,en0]⟩,⟨by simp [wo0,en0],by simp [wo0,en0]⟩,by simp [wo0,en0]⟩,⟨by simp [wo0,en0],by simp [wo0,en0],by simp [wo0,en0],⟨by simp [wo0,en0],by simp [wo0,en0]⟩,⟨by simp [wo0,en0],by simp [wo0,en0]⟩,by simp [wo0,en0]⟩,by simp [wo0],by simp [wo0]⟩
 ·exact (playM_pl l).b
theorem play_pl (l:List Ev) (h:(worldPlayM l).2=true):Pl (worldPlayM l).1∧l.length≤60∧(worldPlayM l).1=playM l:=by
 unfold worldPlayM at *
 split at h
 ·cases h
 ·rename_i hn
  rw [if_neg hn]
  exact ⟨playM_pl l,by omega,rfl⟩
end
end Go.Proofs.YtnhifbfbnofkcaaGreatDoor
