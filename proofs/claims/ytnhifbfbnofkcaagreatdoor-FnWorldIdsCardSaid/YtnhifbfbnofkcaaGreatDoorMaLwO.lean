/- A part of the proof: contracts of functions, or plain facts on which these lean. -/
import Derived.Test.YtnhifbfbnofkcaaGreatDoorMaLwP
namespace Go.Proofs.YtnhifbfbnofkcaaGreatDoor
open Go
set_option linter.unusedVariables false
set_option linter.unusedSimpArgs false
set_option maxRecDepth 100000
set_option maxHeartbeats 16000000

section
open Go
theorem FnWorldIds_ok (code:List UInt8) (S:List Blk):VCall Tryz.prog 3 [.rows none (code.map u8V)] S fun r S'=>r=.bool true:=by
 refine VCall.en hDe Tryz.func3 Tryz.ntmps3 Tryz.results3 ?_
 by_cases hc:(code.length:Int) > 1048576
 ·simp -implicitDefEqProofs (maxSteps:=1000000) (disch:=omega) only [push_cast,simprocAttr,hc,↓gd]
  exact ⟨_,_,Wk.refl _ _ _,rfl⟩
 simp -implicitDefEqProofs (maxSteps:=1000000) (disch:=omega) only [push_cast,simprocAttr,hc,↓gd]
 refine (DrawWorldPlay_ok code (by omega) _).mono ?_
 rintro r S0 ⟨l,hl,hv,rfl,rfl⟩
 have hvB:=fun v hm=>(hv v hm).b
 simp -implicitDefEqProofs (maxSteps:=1000000) (disch:=omega) only [push_cast,simprocAttr,↓gd]
 refine (WorldPlay_ok l (by omega) hvB (fun _ i _=>play_ends l i) _).mono ?_
 rintro r S1 ⟨u,rfl,b,c,d,f,rfl,q1⟩
 have hspec:=fun Z=>sWorldPlay_ok l (by omega) hvB Z
 have hXB:=play_b l
 have hpl:=play_pl l
 generalize worldPlayM l=W at *
 obtain ⟨w,ok⟩:=W
 simp only at hspec hXB hpl q1
 simp -implicitDefEqProofs (maxSteps:=1000000) (disch:=omega) only [push_cast,simprocAttr,↓gd]
 refine (hspec _).mono ?_
 rintro r S2 ⟨u2,rfl,b2,c2,d2,f2,rfl,q2⟩
 have kw:S2[S1.length]?=some (.cells 0 (wC b c d f w)):=q2.upd.get (by simp -implicitDefEqProofs (maxSteps:=1000000) (disch:=omega) only [push_cast,simprocAttr,↓gd]) (by simp)
 have hat:=(q1.at_.app _).upd0 q2.upd
 have lw:=lt_of_some kw
 simp -implicitDefEqProofs (maxSteps:=1000000) (disch:=omega) only [push_cast,simprocAttr,kw,↓gd]
 refine ((lkWorld_self hXB (hat.app _) (q2.at_.app _)).as (by simp [wV,wC,enC])).to ?_
 cases hok:ok
 ·simp -implicitDefEqProofs (maxSteps:=1000000) (disch:=omega) only [push_cast,simprocAttr,kw,↓gd]
  refine ((lkWorld_self hXB (hat.app _) (q2.at_.app _)).as (by simp [wV,wC,enC])).to ?_
  simp -implicitDefEqProofs (maxSteps:=1000000) (disch:=omega) only [push_cast,simprocAttr,↓gd]
  exact ⟨_,_,Wk.refl _ _ _,rfl⟩
 obtain ⟨hP,hle,hplay⟩:=hpl hok
 have hat:=hat.app [.cells 0 (wC b2 c2 d2 f2 w)]
 have kw2:(S2++[.cells 0 (wC b2 c2 d2 f2 w)])[S1.length]?=some (.cells 0 (wC b c d f w)):=by rw [List.getElem?_append_left lw]; exact kw
 have hcl:=hXB.caller.len
 have hsl:=strsC_len w.caller.strs
 have h4l:(w.caller.strs.length:Int)≤4:=by have:=stsOk_len hP.all.1.caller.sts; omega
 simp -implicitDefEqProofs (maxSteps:=1000000) (disch:=omega) only [push_cast,simprocAttr,kw2,↓gd]
 refine wpV_loop (fun m t S'=>∃i:Nat,m=w.caller.strs.length - i∧i≤w.caller.strs.length∧t 4=.ptr S1.length 0∧t 8=.int .i64 i∧Upd [] (S2++[.cells 0 (wC b2 c2 d2 f2 w)]) S') w.caller.strs.length ⟨0,by omega,by omega,rfl,rfl,by simp only [wC,enC,List.cons_append,List.nil_append]; exact Upd.refl _ _⟩ ?_
 rintro m t S' ⟨i,rfl,hi,h4,h8,hu⟩
 refine wpV_of0 hDe ?_
 have kw':=hu.get kw2 (by simp)
 have hat':=hat.upd0 hu
 have hsa:=hat'.caller.1
 have lkw:=lt_of_some kw'
 have lsa:=lt_of_some hsa
 by_cases hil:i < w.caller.strs.length
 ·have hil':(i:Int) < w.caller.strs.length:=by omega
  have hat2:=strsC_at hil
  obtain ⟨i1,i2,i3,i4⟩:=hP.ids hil
  have hx:w.caller.strs.getD i st0=stAt w.caller i:=rfl
  rw [hx] at hat2
  generalize stAt w.caller i=s at *
  by_cases h2:s.state=2
  ·obtain ⟨j1,j2,j3⟩:=i4 h2
   simp -implicitDefEqProofs (maxSteps:=1000000) (disch:=omega) only [push_cast,simprocAttr,h4,h8,hil',kw',hsa,hat2,i1,h2,j1,j2,j3,↓gd]
   repeat refine And.intro (by omega) ?_
   exact ⟨w.caller.strs.length - (i+1),by omega,i+1,rfl,by omega,by simp,hu.app _⟩
  ·have g1:¬s.state < 1:=by omega
   have g2:¬s.state > 3:=by omega
   simp -implicitDefEqProofs (maxSteps:=1000000) (disch:=omega) only [push_cast,simprocAttr,h4,h8,hil',kw',hsa,hat2,i1,h2,g1,g2,↓gd]
   repeat refine And.intro (by omega) ?_
   exact ⟨w.caller.strs.length - (i+1),by omega,i+1,rfl,by omega,by simp,hu.app _⟩
 ·have:i=w.caller.strs.length:=by omega
  subst this
  have hil':¬((w.caller.strs.length:Nat):Int) < w.caller.strs.length:=by omega
  simp -implicitDefEqProofs (maxSteps:=1000000) (disch:=omega) only [push_cast,simprocAttr,h4,h8,hil',kw',h4l,decide_true,↓gd]
  exact ⟨_,_,Wk.refl _ _ _,rfl⟩
end
end Go.Proofs.YtnhifbfbnofkcaaGreatDoor
