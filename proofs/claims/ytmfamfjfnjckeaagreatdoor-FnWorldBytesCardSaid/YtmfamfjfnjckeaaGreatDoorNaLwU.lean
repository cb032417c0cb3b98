/- A part of the proof: contracts of functions, or plain facts on which these lean. -/
import Derived.Test.YtmfamfjfnjckeaaGreatDoorNaLwP
namespace Go.Proofs.YtmfamfjfnjckeaaGreatDoor
open Go
set_option linter.unusedVariables false
set_option linter.unusedSimpArgs false
set_option maxRecDepth 100000
set_option maxHeartbeats 16000000

section
open Go
theorem FnWorldBytes_ok (code:List UInt8) (S:List Blk):VCall Tryz.prog 6 [.rows none (code.map u8V)] S fun r S'=>r=.bool true:=by
 refine VCall.en hDe Tryz.func6 Tryz.ntmps6 Tryz.results6 ?_
 by_cases hc:(code.length:Int) > 1048576
 ·simp -implicitDefEqProofs (maxSteps:=1000000) (disch:=omega) only [push_cast,simprocAttr,hc,↓gd]
  exact ⟨_,_,Wk.refl _ _ _,rfl⟩
 simp -implicitDefEqProofs (maxSteps:=1000000) (disch:=omega) only [push_cast,simprocAttr,hc,↓gd]
 refine (DrawWorldPlay_ok code (by omega) _).mono ?_
 rintro r S0 ⟨l,hl,hv,rfl,rfl⟩
 have hvB:=fun v hm=>(hv v hm).b
 simp -implicitDefEqProofs (maxSteps:=1000000) (disch:=omega) only [push_cast,simprocAttr,↓gd]
 refine (WorldPlay_ok l (by omega) hvB (fun _ i _=>play_ends l i) _).mono ?_
 rintro r S1 ⟨u,rfl,b,c,d,f,rfl,q1⟩
 have hspec:=fun Z=>sWorldPlay_ok l (by omega) hvB Z
 have hXB:=play_b l
 have hpl:=play_pl l
 generalize worldPlayM l=W at *
 obtain ⟨w,ok⟩:=W
 simp only at hspec hXB hpl q1
 simp -implicitDefEqProofs (maxSteps:=1000000) (disch:=omega) only [push_cast,simprocAttr,↓gd]
 refine (hspec _).mono ?_
 rintro r S2 ⟨u2,rfl,b2,c2,d2,f2,rfl,q2⟩
 have kw:S2[S1.length]?=some (.cells 0 (wC b c d f w)):=q2.upd.get (by simp -implicitDefEqProofs (maxSteps:=1000000) (disch:=omega) only [push_cast,simprocAttr,↓gd]) (by simp)
 have hat:=(q1.at_.app _).upd0 q2.upd
 have lw:=lt_of_some kw
 simp -implicitDefEqProofs (maxSteps:=1000000) (disch:=omega) only [push_cast,simprocAttr,kw,↓gd]
 refine ((lkWorld_self hXB (hat.app _) (q2.at_.app _)).as (by simp [wV,wC,enC])).to ?_
 cases hok:ok
 ·simp -implicitDefEqProofs (maxSteps:=1000000) (disch:=omega) only [push_cast,simprocAttr,kw,↓gd]
  refine ((lkWorld_self hXB (hat.app _) (q2.at_.app _)).as (by simp [wV,wC,enC])).to ?_
  simp -implicitDefEqProofs (maxSteps:=1000000) (disch:=omega) only [push_cast,simprocAttr,↓gd]
  exact ⟨_,_,Wk.refl _ _ _,rfl⟩
 obtain ⟨hP,hle,hplay⟩:=hpl hok
 have hat:=hat.app [.cells 0 (wC b2 c2 d2 f2 w)]
 have kw2:(S2++[.cells 0 (wC b2 c2 d2 f2 w)])[S1.length]?=some (.cells 0 (wC b c d f w)):=by rw [List.getElem?_append_left lw]; exact kw
 obtain ⟨fu,fd,hs⟩:=hP.syn
 have hwok:=hP.all.ok
 obtain ⟨hfr0,hfr1⟩:=hs.frames hwok
 obtain ⟨n0,n1⟩:=hs.short_frames hP.all.1
 have e0:=hs.up
 have e1:=hs.down
 have hF:=fun (T:List Blk) (way:Int) (q:WoAt T b c d f w)=>WorldFrames_ok hXB way q
 have hub:=hXB.up; have hdb:=hXB.down; have hcb:=hXB.caller.came; have hab:=hXB.answerer.came
 simp -implicitDefEqProofs (maxSteps:=1000000) (disch:=omega) only [push_cast,simprocAttr,kw2,↓gd]
 refine wpV_loop (fun m t S'=>∃i:Nat,m=2 - i∧i≤2∧t 4=.ptr S1.length 0∧t 8=.int .i64 i∧S'[S1.length]?=some (.cells 0 (wC b c d f w))∧WoAt S' b c d f w) 2 ⟨0,by omega,by omega,rfl,rfl,?_,?_⟩ ?_
 ·simpa only [wC,enC,List.cons_append,List.nil_append] using kw2
 ·simpa only [wC,enC,List.cons_append,List.nil_append] using hat
 rintro m t S' ⟨i,rfl,hi,h4,h8,kw',hat'⟩
 refine wpV_of0 hDe ?_
 have lkw:=lt_of_some kw'
 by_cases hi2:i < 2
 ·have hi':(i:Int)≤1:=by omega
  obtain ⟨fs,hfs,hok,hn,hby,hlen⟩:∃fs,worldFramesM w (i:Int)=fs∧(∀g ∈ fs,frameOk g=true)∧fs.length≤1000000∧bytes fs=(if i=0 then w.answerer.came++w.up else w.caller.came++w.down)∧(bytes fs).length≤2000000:=by
   rcases (by omega:i=0∨i=1) with rfl | rfl
   ·exact ⟨fu,hfr0,hs.j.u.ok,n0,e0.symm,by rw [←e0,List.length_append]; omega⟩
   ·exact ⟨fd,hfr1,hs.j.d.ok,n1,e1.symm,by rw [←e1,List.length_append]; omega⟩
  simp -implicitDefEqProofs (maxSteps:=1000000) (disch:=omega) only [push_cast,simprocAttr,h4,h8,hi',kw',↓gd]
  refine ((hF _ i hat').as (by simp [wV,wC,enC])).mono ?_
  rintro r S3 ⟨p0,rfl,z0,z1,z2⟩
  rw [hfs] at z0 ⊢
  have kw3:=z2.get kw' (by simp)
  have hat3:=hat'.upd0 z2
  have lp0:=lt_of_some z0
  have lw3:=lt_of_some kw3
  have hfw:=frmsC_len fs
  simp -implicitDefEqProofs (maxSteps:=1000000) (disch:=omega) only [push_cast,simprocAttr,↓gd]
  refine wpV_loop (fun m t S'=>∃j:Nat,m=fs.length - j∧j≤fs.length∧t 4=.ptr S1.length 0∧t 8=.int .i64 i∧t 9=.str (bytes (fs.take j))∧t 10=.heap p0 fs.length∧t 11=.int .i64 j∧S'=S3) fs.length ⟨0,by omega,by omega,by simp -implicitDefEqProofs (maxSteps:=1000000) (disch:=omega) only [push_cast,simprocAttr,h4,↓gd],by simp -implicitDefEqProofs (maxSteps:=1000000) (disch:=omega) only [push_cast,simprocAttr,h8,↓gd],rfl,rfl,rfl,rfl⟩ ?_
  rintro m t S' ⟨j,rfl,hj,h4,h8,h9,h10,h11,rfl⟩
  refine wpV_of0 hDe ?_
  by_cases hjl:j < fs.length
  ·have hjl':(j:Int) < fs.length:=by omega
   have hfat:=frmsC_at hjl
   have hsn:bytes (fs.take (j+1))=bytes (fs.take j)++frW (fs.getD j Go.Proofs.YtmfamfjfnjckeaaGreatDoor.fr0):=by
    rw [take_succ_fr hjl,bytes_app]; simp [bytes]
   have hfo:frameOk (fs.getD j Go.Proofs.YtmfamfjfnjckeaaGreatDoor.fr0)=true:=hok _ (by rw [getD_lt Go.Proofs.YtmfamfjfnjckeaaGreatDoor.fr0 hjl]; exact List.getElem_mem hjl)
   have hbl:(bytes (fs.take (j+1))).length≤(bytes fs).length:=by
    conv=>rhs; rw [←List.take_append_drop (j+1) fs,bytes_app,List.length_append]
    omega
   rw [hsn,List.length_append] at hbl
   have hFW:=fun T=>FrameWrite_ok (fs.getD j Go.Proofs.YtmfamfjfnjckeaaGreatDoor.fr0) T
   rw [hfo] at hFW
   generalize fs.getD j Go.Proofs.YtmfamfjfnjckeaaGreatDoor.fr0=g at *
   simp -implicitDefEqProofs (maxSteps:=1000000) (disch:=omega) only [push_cast,simprocAttr,h4,h8,h9,h10,h11,hjl',z0,hfat,↓gd]
   repeat refine And.intro (by omega) ?_
   refine ((hFW _).as (by simp [frV,frmC])).to ?_
   simp -implicitDefEqProofs (maxSteps:=1000000) (disch:=omega) only [push_cast,simprocAttr,h4,h8,h9,h10,h11,↓gd]
   repeat refine And.intro (by omega) ?_
   exact ⟨fs.length - (j+1),by omega,j+1,rfl,by omega,by rw [hsn],by simp⟩
  ·have:j=fs.length:=by omega
   subst this
   have hjl':¬((fs.length:Nat):Int) < fs.length:=by omega
   rw [List.take_length,hby] at h9
   rcases (by omega:i=0∨i=1) with rfl | rfl
   ·rw [if_pos rfl] at h9
    simp -implicitDefEqProofs (maxSteps:=1000000) (disch:=omega) only [push_cast,simprocAttr,h4,h8,h9,h10,h11,hjl',kw3,↓gd]
    repeat refine And.intro (by omega) ?_
    exact ⟨2 - (0+1),by omega,1,rfl,by omega,by simp,hat3⟩
   ·rw [if_neg (by decide)] at h9
    simp -implicitDefEqProofs (maxSteps:=1000000) (disch:=omega) only [push_cast,simprocAttr,h4,h8,h9,h10,h11,hjl',kw3,↓gd]
    repeat refine And.intro (by omega) ?_
    exact ⟨2 - (1+1),by omega,2,rfl,by omega,by simp,hat3⟩
 ·have:i=2:=by omega
  subst this
  have hi':¬((2:Nat):Int)≤1:=by omega
  simp -implicitDefEqProofs (maxSteps:=1000000) (disch:=omega) only [push_cast,simprocAttr,h4,h8,hi',↓gd]
  exact ⟨_,_,Wk.refl _ _ _,rfl⟩
end
end Go.Proofs.YtmfamfjfnjckeaaGreatDoor
