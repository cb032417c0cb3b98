/- A part of the proof: contracts of functions, or plain facts on which these lean. -/
import Derived.Test.YtodjmflbakfmjaaGreatDoorMbLwP
namespace Go.Proofs.YtodjmflbakfmjaaGreatDoor
open Go
set_option linter.unusedVariables false
set_option linter.unusedSimpArgs false
set_option maxRecDepth 100000
set_option maxHeartbeats 16000000

section
open Go
theorem FnWorldOwn_ok (code:List UInt8) (S:List Blk):VCall Tryz.prog 6 [.rows none (code.map u8V)] S fun r S'=>r=.bool true:=by
 refine VCall.ex hDe (fun _=>false) (fun id=>if id=15 then [19,19,19,6,6,6,16,19,19,19,19,19,19,16,16,16,19,19,19] else if id=16 then [19,19,19,6,6,6,16,19,19,19,19,19,19,16,16,16,19,19,19] else []) Tryz.func6 Tryz.ntmps6 Tryz.results6 ?_
 by_cases hc:(code.length:Int) > 1048576
 ·simp -implicitDefEqProofs (maxSteps:=1000000) (disch:=omega) only [push_cast,simprocAttr,hc,↓gd]
  exact ⟨_,_,Wk.refl _ _ _,rfl⟩
 simp -implicitDefEqProofs (maxSteps:=1000000) (disch:=omega) only [push_cast,simprocAttr,hc,↓gd]
 refine (DrawWorldPlay_ok code (by omega) _).mono ?_
 rintro r S0 ⟨l,hl,hv,rfl,rfl⟩
 have hvB:=fun v hm=>(hv v hm).b
 simp -implicitDefEqProofs (maxSteps:=1000000) (disch:=omega) only [push_cast,simprocAttr,↓gd]
 refine (WorldPlay_ok l (by omega) hvB (fun _ i _=>play_ends l i) _).mono ?_
 rintro r S1 ⟨u,rfl,b,c,d,f,rfl,q1⟩
 have hspec:=fun Z=>sWorldPlay_ok l (by omega) hvB Z
 have hXB:=play_b l
 have hpl:=play_pl l
 generalize worldPlayM l=W at *
 obtain ⟨w,ok⟩:=W
 simp only at hspec hXB hpl q1
 simp -implicitDefEqProofs (maxSteps:=1000000) (disch:=omega) only [push_cast,simprocAttr,↓gd]
 refine (hspec _).mono ?_
 rintro r S2 ⟨u2,rfl,b2,c2,d2,f2,rfl,q2⟩
 have kw:S2[S1.length]?=some (.cells 0 (wC b c d f w)):=q2.upd.get (by simp -implicitDefEqProofs (maxSteps:=1000000) (disch:=omega) only [push_cast,simprocAttr,↓gd]) (by simp)
 have hat:=(q1.at_.app _).upd0 q2.upd
 have lw:=lt_of_some kw
 simp -implicitDefEqProofs (maxSteps:=1000000) (disch:=omega) only [push_cast,simprocAttr,kw,↓gd]
 refine ((lkWorld_self hXB (hat.app _) (q2.at_.app _)).as (by simp [wV,wC,enC])).to ?_
 cases hok:ok
 ·simp -implicitDefEqProofs (maxSteps:=1000000) (disch:=omega) only [push_cast,simprocAttr,kw,↓gd]
  refine ((lkWorld_self hXB (hat.app _) (q2.at_.app _)).as (by simp [wV,wC,enC])).to ?_
  simp -implicitDefEqProofs (maxSteps:=1000000) (disch:=omega) only [push_cast,simprocAttr,↓gd]
  exact ⟨_,_,Wk.refl _ _ _,rfl⟩
 obtain ⟨hP,hle,hplay⟩:=hpl hok
 have hat:=hat.app [.cells 0 (wC b2 c2 d2 f2 w)]
 have kw2:(S2++[.cells 0 (wC b2 c2 d2 f2 w)])[S1.length]?=some (.cells 0 (wC b c d f w)):=by rw [List.getElem?_append_left lw]; exact kw
 obtain ⟨fu,fd,hs⟩:=hP.syn
 have hwok:=hP.all.ok
 obtain ⟨fr0,fr1⟩:=hs.frames hwok
 obtain ⟨n0,n1⟩:=hs.short_frames hP.all.1
 obtain ⟨u1,u2⟩:=ok_body hs.j.u.ok
 obtain ⟨v1,v2⟩:=ok_body hs.j.d.ok
 have hJ:=hs.j
 have hF:=fun (T:List Blk) (way:Int) (q:WoAt T b c d f w)=>WorldFrames_ok hXB way q
 simp -implicitDefEqProofs (maxSteps:=1000000) (disch:=omega) only [push_cast,simprocAttr,kw2,↓gd]
 refine ((hF _ 0 hat).as (by simp [wV,wC,enC])).mono ?_
 rintro r S3 ⟨p0,rfl,z0,z1,z2⟩
 have kw3:=z2.get kw2 (by simp)
 have hat3:=hat.upd0 z2
 have lp0:=lt_of_some z0
 rw [fr0] at z0 ⊢
 simp -implicitDefEqProofs (maxSteps:=1000000) (disch:=omega) only [push_cast,simprocAttr,kw3,↓gd]
 refine ((hF _ 1 hat3).as (by simp [wV,wC,enC])).mono ?_
 rintro r S4 ⟨p1,rfl,y0,y1,y2⟩
 have kw4:=y2.get kw3 (by simp)
 have hat4:=hat3.upd0 y2
 have z4:=y2.get z0 (by simp)
 rw [fr1] at y0 ⊢
 have hal:=hXB.answerer.len
 have hcl:=hXB.caller.len
 have hsl:=strsC_len w.answerer.strs
 simp -implicitDefEqProofs (maxSteps:=1000000) (disch:=omega) only [push_cast,simprocAttr,kw4,↓gd]
 refine wpV_loop (fun m t S'=>∃i:Nat,m=w.answerer.strs.length - i∧i≤w.answerer.strs.length∧t 4=.ptr S1.length 0∧t 8=.heap p0 fu.length∧t 9=.heap p1 fd.length∧t 10=.int .i64 i∧Upd [] S4 S') w.answerer.strs.length ⟨0,by omega,by omega,rfl,rfl,rfl,rfl,Upd.refl _ _⟩ ?_
 rintro m t S' ⟨i,rfl,hi,h4,h8,h9,h10,hu⟩
 refine wpV_of hDe (fun _=>false) (fun id=>if id=15 then [19,19,19,6,6,6,16,19,19,19,19,19,19,16,16,16,19,19,19] else if id=16 then [19,19,19,6,6,6,16,19,19,19,19,19,19,16,16,16,19,19,19] else []) (by kernel_rfl) ?_
 have kw':=hu.get kw4 (by simp)
 have hat':=hat4.upd0 hu
 have za:=hu.get z4 (by simp)
 have ya:=hu.get y0 (by simp)
 have hsa:=hat'.answerer.1
 have lkw:=lt_of_some kw'
 have lza:=lt_of_some za
 have lya:=lt_of_some ya
 have lsa:=lt_of_some hsa
 by_cases hil:i < w.answerer.strs.length
 ·have hil':(i:Int) < w.answerer.strs.length:=by omega
  have hat2:=strsC_at hil
  have hof:=hJ.A.w.of hil
  have hha:Has w.answerer (stAt w.answerer i).id:=Has.at_ hil
  have hsok:=stOk_iff.1 (hJ.A.w.st hil)
  have hid0:=strm_pos hsok.1
  obtain ⟨k,hk⟩:=hJ.toJ0.hasUp hha
  have hstep:=fun T (q:EnAt T b c w.caller)=>lkStep_ok hXB.caller q hk
  have hcof:=stOf_some hk
  have hcok:=stOk_iff.1 (hJ.C.w.st (atM_some hk).1)
  have e1:=hJ.u.own _ hid0
  have e2:=hJ.d.own _ hid0
  rw [hof,hcof] at e1 e2
  have g1:=flowOk_iff.1 hcok.2.2.2.2.2.2.2
  have g2:=flowOk_iff.1 hsok.2.2.2.2.2.2.2
  have d0:=fun T q=>lkData_ok fu n0 u1 (stAt w.answerer i).id (S:=T) (b:=p0) q
  have d1:=fun T q=>lkData_ok fd n1 v1 (stAt w.answerer i).id (S:=T) (b:=p1) q
  have d2:=fun T q=>lkMore_ok fu n0 u2 (stAt w.answerer i).id (S:=T) (b:=p0) q
  have d3:=fun T q=>lkMore_ok fd n1 v2 (stAt w.answerer i).id (S:=T) (b:=p1) q
  have hx:w.answerer.strs.getD i st0=stAt w.answerer i:=rfl
  rw [hx] at hat2
  generalize stAt w.answerer i=s at *
  generalize stAt w.caller k=q at *
  generalize dat s.id fu=x1 at *
  generalize dat s.id fd=x2 at *
  generalize mor s.id fu=x3 at *
  generalize mor s.id fd=x4 at *
  simp -implicitDefEqProofs (maxSteps:=1000000) (disch:=omega) only [push_cast,simprocAttr,h4,h8,h9,h10,hil',kw',hsa,hat2,↓gd]
  repeat refine And.intro (by omega) ?_
  refine ((hstep _ (hat'.caller.app _)).as (by simp [eV,enV,enC])).to ?_
  simp -implicitDefEqProofs (maxSteps:=1000000) (disch:=omega) only [push_cast,simprocAttr,h4,h8,h9,h10,kw',↓gd]
  refine ((d0 _ (by simp -implicitDefEqProofs (maxSteps:=1000000) (disch:=omega) only [push_cast,simprocAttr,za,↓gd])).as rfl).to ?_
  simp -implicitDefEqProofs (maxSteps:=1000000) (disch:=omega) only [push_cast,simprocAttr,h4,h8,h9,h10,kw',↓gd]
  refine ((d3 _ (by simp -implicitDefEqProofs (maxSteps:=1000000) (disch:=omega) only [push_cast,simprocAttr,ya,↓gd])).as rfl).to ?_
  simp -implicitDefEqProofs (maxSteps:=1000000) (disch:=omega) only [push_cast,simprocAttr,h4,h8,h9,h10,kw',↓gd]
  refine ((d1 _ (by simp -implicitDefEqProofs (maxSteps:=1000000) (disch:=omega) only [push_cast,simprocAttr,ya,↓gd])).as rfl).to ?_
  simp -implicitDefEqProofs (maxSteps:=1000000) (disch:=omega) only [push_cast,simprocAttr,h4,h8,h9,h10,kw',↓gd]
  refine ((d2 _ (by simp -implicitDefEqProofs (maxSteps:=1000000) (disch:=omega) only [push_cast,simprocAttr,za,↓gd])).as rfl).to ?_
  have f1:q.send+(x1:Int)+8 - s.room+x4=8:=by omega
  have f2:s.send+(x2:Int)+8 - q.room+x3=8:=by omega
  simp -implicitDefEqProofs (maxSteps:=1000000) (disch:=omega) only [push_cast,simprocAttr,h4,h8,h9,h10,kw',f1,f2,↓gd]
  exact ⟨w.answerer.strs.length - (i+1),by omega,i+1,rfl,by omega,by simp,hu.app _⟩
 ·have:i=w.answerer.strs.length:=by omega
  subst this
  have hil':¬((w.answerer.strs.length:Nat):Int) < w.answerer.strs.length:=by omega
  simp -implicitDefEqProofs (maxSteps:=1000000) (disch:=omega) only [push_cast,simprocAttr,h4,h10,hil',kw',↓gd]
  exact ⟨_,_,Wk.refl _ _ _,rfl⟩
end
end Go.Proofs.YtodjmflbakfmjaaGreatDoor
