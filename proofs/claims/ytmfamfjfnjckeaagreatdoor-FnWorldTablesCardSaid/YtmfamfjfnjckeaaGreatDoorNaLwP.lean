/- A part of the proof: contracts of functions, or plain facts on which these lean. -/
import Derived.Test.YtmfamfjfnjckeaaGreatDoorNa39
import Derived.Test.YtmfamfjfnjckeaaGreatDoorNaLwA
namespace Go.Proofs.YtmfamfjfnjckeaaGreatDoor
open Go
set_option linter.unusedVariables false
set_option linter.unusedSimpArgs false
set_option maxRecDepth 100000
set_option maxHeartbeats 16000000

section
open Go
theorem frW_lenP (f:Fr):(frW f).length=4+f.body.length:=by simp [frW]; omega
theorem Pl.b {w:Wo} (h:Pl w):WoB w:=h.all.1.b (by decide)
theorem play_b (l:List Ev):WoB (worldPlayM l).1:=by
 unfold worldPlayM
 split
 ·exact ⟨⟨by simp [wo0,en0],by simp [wo0,en0],by simp [wo0,en0],⟨by simp [wo0,en0],by simp [wo0,en0]⟩,⟨by simp [wo0,en0],by simp [wo0,en0]⟩,by simp [wo0,en0]⟩,⟨by simp [wo0,en0],by simp [wo0,en0],by simp [wo0,en0],⟨by simp [wo0,en0],by simp [wo0,en0]⟩,⟨by simp [wo0,en0],by simp [wo0,en0]⟩,by simp [wo0,en0]⟩,by simp [wo0],by simp [wo0]⟩
 ·exact (playM_pl l).b
theorem play_pl (l:List Ev) (h:(worldPlayM l).2=true):Pl (worldPlayM l).1∧l.length≤60∧(worldPlayM l).1=playM l:=by
 unfold worldPlayM at *
 split at h
 ·cases h
 ·rename_i hn
  rw [if_neg hn]
  exact ⟨playM_pl l,by omega,rfl⟩
theorem splitM_bytes:∀(l:List Fr) (n:Nat),(∀f ∈ l,frameOk f=true)→l.length≤n→splitM n (bytes l)=l
 | [],n,_,_=>by
  cases n with
  | zero=>rfl
  | succ n=>simp [splitM,bytes,frR]
 | f :: l,0,_,h=>by simp at h
 | f :: l,n+1,hok,h=>by
  have hb:bytes (f :: l)++[]=bytes (f :: l):=List.append_nil _
  rcases frR_bytes hb hok with ⟨_,_,z⟩ | ⟨g,gs,e,q,hd⟩
  ·have h1:=z f l rfl
   have:(bytes (f :: l)).length=4+f.body.length+(bytes l).length:=by rw [bytes_cons,List.length_append,frW_lenP]
   omega
  ·cases e
   unfold splitM
   rw [q,if_pos rfl]
   rw [List.append_nil] at hd
   simp only
   rw [hd,splitM_bytes l n (fun g hg=>hok g (by simp [hg])) (by simpa using h)]
theorem bytes_len:∀l:List Fr,l.length≤(bytes l).length
 | []=>by simp [bytes]
 | f :: l=>by have:=bytes_len l; rw [bytes_cons,List.length_append,frW_lenP,List.length_cons]; omega
theorem Syn.frames {w:Wo} {fu fd:List Fr} (h:Syn w fu fd) (hok:woOk w=true):worldFramesM w 0=fu∧worldFramesM w 1=fd:=by
 constructor
 ·rw [worldFramesM,if_pos ⟨hok,by decide,by decide⟩]
  have e:wireM w 0=bytes fu:=by rw [wireM,if_neg (by decide)]; exact h.up
  rw [e]
  exact splitM_bytes fu _ h.j.u.ok (bytes_len fu)
 ·rw [worldFramesM,if_pos ⟨hok,by decide,by decide⟩]
  have e:wireM w 1=bytes fd:=by rw [wireM,if_pos rfl]; exact h.down
  rw [e]
  exact splitM_bytes fd _ h.j.d.ok (bytes_len fd)
theorem Syn.short_frames {w:Wo} {fu fd:List Fr} (h:Syn w fu fd) (hw:WoW 36 w):fu.length≤1000000∧fd.length≤1000000:=by
 have h1:=congrArg List.length h.up
 have h2:=congrArg List.length h.down
 rw [List.length_append] at h1 h2
 have:=bytes_len fu; have:=bytes_len fd
 have:=hw.up; have:=hw.down; have:=hw.caller.came; have:=hw.answerer.came
 constructor <;> omega
end
end Go.Proofs.YtmfamfjfnjckeaaGreatDoor
