/- A part of the proof: contracts of functions, or plain facts on which these lean. -/
import Derived.Test.YtodjmflbakfmjaaGreatDoorMbLwP
namespace Go.Proofs.YtodjmflbakfmjaaGreatDoor
open Go
set_option linter.unusedVariables false
set_option linter.unusedSimpArgs false
set_option maxRecDepth 100000
set_option maxHeartbeats 16000000

section
open Go
theorem FnWorldWindow_ok (code:List UInt8) (S:List Blk):VCall Tryz.prog 4 [.rows none (code.map u8V)] S fun r S'=>r=.bool true:=by
 refine VCall.ex hDe (fun _=>false) (fun id=>if id=10 then [17,17,17,17,5,14,17,17,17,17,17,17,17,14,17,17,17] else if id=11 then [17,17,17,17,5,14,17,17,17,17,17,17,17,14,17,17,17] else if id=12 then [10,10,10,10,10,10,10,10,10,10,22,22,22,22,22,22,22,22,22,22,22,22,31,31,31,31,31,31,31,31,31] else []) Tryz.func4 Tryz.ntmps4 Tryz.results4 ?_
 by_cases hc:(code.length:Int) > 1048576
 ·simp -implicitDefEqProofs (maxSteps:=1000000) (disch:=omega) only [push_cast,simprocAttr,hc,↓gd]
  exact ⟨_,_,Wk.refl _ _ _,rfl⟩
 simp -implicitDefEqProofs (maxSteps:=1000000) (disch:=omega) only [push_cast,simprocAttr,hc,↓gd]
 refine (DrawWorldPlay_ok code (by omega) _).mono ?_
 rintro r S0 ⟨l,hl,hv,rfl,rfl⟩
 have hvB:=fun v hm=>(hv v hm).b
 simp -implicitDefEqProofs (maxSteps:=1000000) (disch:=omega) only [push_cast,simprocAttr,↓gd]
 refine (WorldPlay_ok l (by omega) hvB (fun _ i _=>play_ends l i) _).mono ?_
 rintro r S1 ⟨u,rfl,b,c,d,f,rfl,q1⟩
 have hspec:=fun Z=>sWorldPlay_ok l (by omega) hvB Z
 have hXB:=play_b l
 have hpl:=play_pl l
 generalize worldPlayM l=W at *
 obtain ⟨w,ok⟩:=W
 simp only at hspec hXB hpl q1
 simp -implicitDefEqProofs (maxSteps:=1000000) (disch:=omega) only [push_cast,simprocAttr,↓gd]
 refine (hspec _).mono ?_
 rintro r S2 ⟨u2,rfl,b2,c2,d2,f2,rfl,q2⟩
 have kw:S2[S1.length]?=some (.cells 0 (wC b c d f w)):=q2.upd.get (by simp -implicitDefEqProofs (maxSteps:=1000000) (disch:=omega) only [push_cast,simprocAttr,↓gd]) (by simp)
 have hat:=(q1.at_.app _).upd0 q2.upd
 have lw:=lt_of_some kw
 simp -implicitDefEqProofs (maxSteps:=1000000) (disch:=omega) only [push_cast,simprocAttr,kw,↓gd]
 refine ((lkWorld_self hXB (hat.app _) (q2.at_.app _)).as (by simp [wV,wC,enC])).to ?_
 cases hok:ok
 ·simp -implicitDefEqProofs (maxSteps:=1000000) (disch:=omega) only [push_cast,simprocAttr,kw,↓gd]
  refine ((lkWorld_self hXB (hat.app _) (q2.at_.app _)).as (by simp [wV,wC,enC])).to ?_
  simp -implicitDefEqProofs (maxSteps:=1000000) (disch:=omega) only [push_cast,simprocAttr,↓gd]
  exact ⟨_,_,Wk.refl _ _ _,rfl⟩
 obtain ⟨hP,hle,hplay⟩:=hpl hok
 have hat:=hat.app [.cells 0 (wC b2 c2 d2 f2 w)]
 have kw2:(S2++[.cells 0 (wC b2 c2 d2 f2 w)])[S1.length]?=some (.cells 0 (wC b c d f w)):=by rw [List.getElem?_append_left lw]; exact kw
 obtain ⟨fu,fd,hs⟩:=hP.syn
 have hwok:=hP.all.ok
 obtain ⟨fr0,fr1⟩:=hs.frames hwok
 obtain ⟨n0,n1⟩:=hs.short_frames hP.all.1
 obtain ⟨u1,u2⟩:=ok_body hs.j.u.ok
 obtain ⟨v1,v2⟩:=ok_body hs.j.d.ok
 have hJ:=hs.j
 have hF:=fun (T:List Blk) (way:Int) (q:WoAt T b c d f w)=>WorldFrames_ok hXB way q
 simp -implicitDefEqProofs (maxSteps:=1000000) (disch:=omega) only [push_cast,simprocAttr,kw2,↓gd]
 refine ((hF _ 0 hat).as (by simp [wV,wC,enC])).mono ?_
 rintro r S3 ⟨p0,rfl,z0,z1,z2⟩
 have kw3:=z2.get kw2 (by simp)
 have hat3:=hat.upd0 z2
 have lp0:=lt_of_some z0
 rw [fr0] at z0 ⊢
 simp -implicitDefEqProofs (maxSteps:=1000000) (disch:=omega) only [push_cast,simprocAttr,kw3,↓gd]
 refine ((hF _ 1 hat3).as (by simp [wV,wC,enC])).mono ?_
 rintro r S4 ⟨p1,rfl,y0,y1,y2⟩
 have kw4:=y2.get kw3 (by simp)
 have hat4:=hat3.upd0 y2
 have z4:=y2.get z0 (by simp)
 rw [fr1] at y0 ⊢
 have m1:=hJ.u.flow
 have m2:=hJ.d.flow
 have m3:=hJ.C.sum
 have m4:=hJ.A.sum
 have b1:=dat_le 0 fu u1
 have b2:=dat_le 0 fd v1
 have b3:=mor_le 0 fu
 have b4:=mor_le 0 fd
 have w1:=ok_body hJ.C.w.wait
 have w2:=ok_body hJ.A.w.wait
 have l1:=hJ.C.w.len
 have l2:=hJ.A.w.len
 have f1:=flowOk_iff.1 hJ.C.w.flow
 have f2:=flowOk_iff.1 hJ.A.w.flow
 have d0:=lkData_ok fu n0 u1 0 z4
 have d1:=lkMore_ok fd n1 v2 0 y0
 have d2:=lkData_ok fd n1 v1 0 y0
 have d3:=lkMore_ok fu n0 u2 0 z4
 have d4:=lkMore_ok w.answerer.wait (by omega) w2.2 0 hat4.answerer.2
 have d5:=lkMore_ok w.caller.wait (by omega) w1.2 0 hat4.caller.2
 generalize dat 0 fu=x1 at *
 generalize dat 0 fd=x2 at *
 generalize mor 0 fu=x3 at *
 generalize mor 0 fd=x4 at *
 generalize hx5:mor 0 w.caller.wait=x5 at *
 generalize hx6:mor 0 w.answerer.wait=x6 at *
 simp -implicitDefEqProofs (maxSteps:=1000000) (disch:=omega) only [push_cast,simprocAttr,kw4,↓gd]
 refine (d0.as rfl).to ?_
 simp -implicitDefEqProofs (maxSteps:=1000000) (disch:=omega) only [push_cast,simprocAttr,kw4,↓gd]
 refine (d1.as rfl).to ?_
 simp -implicitDefEqProofs (maxSteps:=1000000) (disch:=omega) only [push_cast,simprocAttr,kw4,↓gd]
 refine (d2.as rfl).to ?_
 simp -implicitDefEqProofs (maxSteps:=1000000) (disch:=omega) only [push_cast,simprocAttr,kw4,↓gd]
 refine (d3.as rfl).to ?_
 have e1:w.caller.send+(x1:Int)+16 - w.answerer.room+x4=16:=by omega
 have e2:w.answerer.send+(x2:Int)+16 - w.caller.room+x3=16:=by omega
 have e3:(x6:Int)=16 - w.answerer.room:=by omega
 have e4:(x5:Int)=16 - w.caller.room:=by omega
 simp -implicitDefEqProofs (maxSteps:=1000000) (disch:=omega) only [push_cast,simprocAttr,kw4,e1,e2,↓gd]
 refine (d4.as rfl).to ?_
 simp -implicitDefEqProofs (maxSteps:=1000000) (disch:=omega) only [push_cast,simprocAttr,kw4,e1,e2,e3,↓gd]
 refine (d5.as rfl).to ?_
 simp -implicitDefEqProofs (maxSteps:=1000000) (disch:=omega) only [push_cast,simprocAttr,kw4,e1,e2,e4,decide_true,↓gd]
 exact ⟨_,_,Wk.refl _ _ _,rfl⟩
end
end Go.Proofs.YtodjmflbakfmjaaGreatDoor
