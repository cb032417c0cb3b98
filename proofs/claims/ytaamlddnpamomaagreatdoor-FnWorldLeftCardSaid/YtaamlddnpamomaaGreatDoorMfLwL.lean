/- A part of the proof: contracts of functions, or plain facts on which these lean. -/
import Derived.Test.YtaamlddnpamomaaGreatDoorMf39
import Derived.Test.YtaamlddnpamomaaGreatDoorMf41
namespace Go.Proofs.YtaamlddnpamomaaGreatDoor
open Go
set_option linter.unusedVariables false
set_option linter.unusedSimpArgs false
set_option maxRecDepth 100000
set_option maxHeartbeats 16000000

section
open Go
structure LeftF (w x:Wo) (k:Nat):Prop where
 pl:Pl x
 rest:Rest x
 len:x.caller.strs.length=w.caller.strs.length
 call:∀i,i < x.caller.strs.length→((stAt x.caller i).state=2∨(stAt x.caller i).state=3)
 gone:(stAt w.caller k).state=1→(stAt x.caller k).state=3
theorem left_calm {w:Wo} (hP:Pl w) {k:Nat} (hk:k < w.caller.strs.length) :
  Pl (doM w ⟨2,(stAt w.caller k).id,0,[],[]⟩)∧LeftF w (roundsM 16 (doM w ⟨2,(stAt w.caller k).id,0,[],[]⟩)) k:=by
 have h1:=hP.step ⟨2,(stAt w.caller k).id,0,[],[]⟩
 have hR:=calm_all h1 (n:=16) (by decide)
 have hgr:=rounds_grow 16 h1
 obtain ⟨hXP,hcs⟩:=rounds_cs 16 h1
 have hy:(doM w ⟨2,(stAt w.caller k).id,0,[],[]⟩).caller=(leaveM w.caller (stAt w.caller k).id).1:=by
  unfold doM; rw [if_neg (show ¬(2:Int)=1 by decide),if_pos rfl]
 have hl:(doM w ⟨2,(stAt w.caller k).id,0,[],[]⟩).caller.strs.length=w.caller.strs.length:=by
  rw [hy,leaveM]
  split
  ·rfl
  ·split
   ·rfl
   ·simp [setSt]
 refine ⟨h1,hXP,hR,hcs.len.trans hl,fun i hi=>hR.calls hi,fun hst=>?_⟩
 obtain ⟨fu,fd,hs⟩:=hP.syn
 have hans:=hs.j.cans
 have hs3:(stAt (doM w ⟨2,(stAt w.caller k).id,0,[],[]⟩).caller k).state=3:=by
  rw [hy,leaveM,hs.j.C.w.at_ hk]
  simp only
  rw [if_neg (by rintro (z | z); rw [hans] at z; cases z; exact z hst)]
  simp only
  rw [stAt_set (by exact hk)]
 rw [(hgr.at_ k (by rw [hl]; exact hk)).state (by rw [hs3]; decide),hs3]
theorem left_in {w:Wo} (h:woOk w=true):worldCalmM w 16=roundsM 16 w:=by
 rw [worldCalmM,if_neg (by rw [h]; simp)]; rfl
theorem left_do {w:Wo} (h:woOk w=true) (v:Ev):worldDoM w v=doM w v:=by rw [worldDoM,if_neg (by rw [h]; simp)]
theorem FnWorldLeft_ok (code more:List UInt8) (S:List Blk):VCall Tryz.prog 10 [.rows none (code.map u8V),.rows none (more.map u8V)] S fun r S'=>r=.bool true:=by
 refine VCall.ex hDe (fun _=>false) (fun id=>if id=10 then [12,12,12,12,12,12,12,12,12,1000000,1000000,1000000,13,11] else []) Tryz.func10 Tryz.ntmps10 Tryz.results10 ?_
 by_cases hc:(code.length:Int) > 1048576
 ·simp -implicitDefEqProofs (maxSteps:=1000000) (disch:=omega) only [push_cast,simprocAttr,hc,↓gd]
  exact ⟨_,_,Wk.refl _ _ _,rfl⟩
 by_cases hc2:(more.length:Int) > 1048576
 ·simp -implicitDefEqProofs (maxSteps:=1000000) (disch:=omega) only [push_cast,simprocAttr,hc,hc2,↓gd]
  exact ⟨_,_,Wk.refl _ _ _,rfl⟩
 simp -implicitDefEqProofs (maxSteps:=1000000) (disch:=omega) only [push_cast,simprocAttr,hc,hc2,↓gd]
 refine (DrawWorldPlay_ok code (by omega) _).mono ?_
 rintro r S0 ⟨l,hl,hv,rfl,rfl⟩
 have hvB:=fun v hm=>(hv v hm).b
 simp -implicitDefEqProofs (maxSteps:=1000000) (disch:=omega) only [push_cast,simprocAttr,↓gd]
 refine (WorldPlay_ok l (by omega) hvB (fun _ i _=>play_ends l i) _).mono ?_
 rintro r S1 ⟨u,rfl,b,c,d,f,rfl,q1⟩
 have hspec:=fun Z=>sWorldPlay_ok l (by omega) hvB Z
 have hXB:=play_b l
 have hpl:=play_pl l
 generalize worldPlayM l=W at *
 obtain ⟨w,ok⟩:=W
 simp only at hspec hXB hpl q1
 simp -implicitDefEqProofs (maxSteps:=1000000) (disch:=omega) only [push_cast,simprocAttr,↓gd]
 refine (hspec _).mono ?_
 rintro r S2 ⟨u2,rfl,b2,c2,d2,f2,rfl,q2⟩
 have kw:S2[S1.length]?=some (.cells 0 (wC b c d f w)):=q2.upd.get (by simp -implicitDefEqProofs (maxSteps:=1000000) (disch:=omega) only [push_cast,simprocAttr,↓gd]) (by simp)
 have hat:=(q1.at_.app _).upd0 q2.upd
 have lw:=lt_of_some kw
 simp -implicitDefEqProofs (maxSteps:=1000000) (disch:=omega) only [push_cast,simprocAttr,kw,↓gd]
 refine ((lkWorld_self hXB (hat.app _) (q2.at_.app _)).as (by simp [wV,wC,enC])).to ?_
 cases hok:ok
 ·simp -implicitDefEqProofs (maxSteps:=1000000) (disch:=omega) only [push_cast,simprocAttr,kw,↓gd]
  refine ((lkWorld_self hXB (hat.app _) (q2.at_.app _)).as (by simp [wV,wC,enC])).to ?_
  simp -implicitDefEqProofs (maxSteps:=1000000) (disch:=omega) only [push_cast,simprocAttr,↓gd]
  exact ⟨_,_,Wk.refl _ _ _,rfl⟩
 obtain ⟨hP,hle,hplay⟩:=hpl hok
 have hat:=hat.app [.cells 0 (wC b2 c2 d2 f2 w)]
 have kw2:(S2++[.cells 0 (wC b2 c2 d2 f2 w)])[S1.length]?=some (.cells 0 (wC b c d f w)):=by rw [List.getElem?_append_left lw]; exact kw
 by_cases hz:(w.caller.strs.length:Int)=0
 ·simp -implicitDefEqProofs (maxSteps:=1000000) (disch:=omega) only [push_cast,simprocAttr,kw2,hz,↓gd]
  refine ((lkWorld_self hXB hat (q2.at_.app _)).as (by simp [wV,wC,enC])).to ?_
  simp -implicitDefEqProofs (maxSteps:=1000000) (disch:=omega) only [push_cast,simprocAttr,↓gd]
  exact ⟨_,_,Wk.refl _ _ _,rfl⟩
 have htm:Int.tmod (more.length:Int) (w.caller.strs.length:Int)=((more.length % w.caller.strs.length:Nat):Int):=tmod_nat more.length w.caller.strs.length
 have hk:more.length % w.caller.strs.length < w.caller.strs.length:=Nat.mod_lt _ (by omega)
 generalize more.length % w.caller.strs.length=k at hk htm
 obtain ⟨hYP,hF⟩:=left_calm hP hk
 have hdo:=fun T (q:WoAt T b c d f w)=>WorldDo_ok hXB ⟨2,(stAt w.caller k).id,0,[],[]⟩ ⟨by simp,by simp⟩ q
 rw [left_do hP.all.ok] at hdo
 generalize doM w ⟨2,(stAt w.caller k).id,0,[],[]⟩=y at *
 have hYB:=hYP.b
 have hcalm:=fun T b c d f (q:WoAt T b c d f y)=>WorldCalm_ok woAll_stays hYB (fun _=>hYP.all) 16 q
 rw [left_in hYP.all.ok] at hcalm
 generalize roundsM 16 y=x at *
 have hB:=hF.pl.b
 have hT:=hF.pl.true_
 have hW60:EnW 60 x.caller:=hF.pl.all.1.caller.mono (by decide)
 obtain ⟨g1,_,_,_⟩:=hF.rest.flow
 have hcl:=hXB.caller.len
 have hcx:=hB.caller.len
 have hsl:=strsC_len w.caller.strs
 have hsx:=strsC_len x.caller.strs
 have hgone:=hF.gone
 have c0:=strsC_id hk
 have c1:=strsC_get hk (c:=1) (by decide)
 have hatQ:=(q1.at_.app [.cells 0 (wC b c d f w)]).upd0 q2.upd
 have hsb:=hatQ.caller.1
 have lsb:=lt_of_some hsb
 have hst:w.caller.strs.getD k st0=stAt w.caller k:=rfl
 rw [hst] at c0 c1
 generalize stAt w.caller k=s at *
 simp -implicitDefEqProofs (maxSteps:=1000000) (disch:=omega) only [push_cast,simprocAttr,kw2,hz,htm,hsb,c0,c1,strC_eq,↓gd]
 repeat refine And.intro (by omega) ?_
 refine ((hdo _ hat).as (by simp [wV,wC,enC,evV])).mono ?_
 rintro r S3 ⟨b3,c3,d3,f3,rfl,q3⟩
 have kb3:=q3.upd.get hat.caller.1 (by simp)
 have kw3:=q3.upd.get kw2 (by simp)
 simp -implicitDefEqProofs (maxSteps:=1000000) (disch:=omega) only [push_cast,simprocAttr,kb3,kw3,↓gd]
 refine ((hcalm _ _ _ _ _ q3.at_).as (by simp [wV,wC,enC])).mono ?_
 rintro r S4 ⟨b4,c4,d4,f4,rfl,q4⟩
 have kb4:=q4.upd.get kb3 (by simp)
 have kw4:=q4.upd.get kw3 (by simp)
 simp -implicitDefEqProofs (maxSteps:=1000000) (disch:=omega) only [push_cast,simprocAttr,kb3,kw3,kb4,kw4,↓gd]
 refine ⟨rfl,?_⟩
 refine wpV_loop (fun m t S'=>∃i:Nat,m=x.caller.strs.length - i∧i≤x.caller.strs.length∧t 10=.int .i64 k∧t 11=.int .i64 s.state∧t 12=.ptr S4.length 0∧t 13=.int .i64 i∧S'=S4++[.cells 0 (wC b4 c4 d4 f4 x)]) x.caller.strs.length ⟨0,by omega,by omega,rfl,rfl,rfl,rfl,by simp [wC,enC]⟩ ?_
 rintro m t S' ⟨i,rfl,hi,h10,h11,h12,h13,rfl⟩
 refine wpV_of0 hDe ?_
 have hsx4:=q4.at_.caller.1
 have lsx4:=lt_of_some hsx4
 by_cases hil:i < x.caller.strs.length
 ·have hil':(i:Int) < x.caller.strs.length:=by omega
  have d1:=strsC_get hil (c:=1) (by decide)
  have hst:=hF.call i hil
  have hgk:i=k→s.state=1→(stAt x.caller i).state=3:=fun e=>by rw [e]; exact hgone
  have hdef:x.caller.strs.getD i st0=stAt x.caller i:=rfl
  rw [hdef] at d1
  generalize stAt x.caller i=sb at *
  by_cases hik:i=k
  ·subst hik
   by_cases h1:s.state=1
   ·have h3:=hgk rfl h1
    simp -implicitDefEqProofs (maxSteps:=1000000) (disch:=omega) only [push_cast,simprocAttr,h10,h11,h12,h13,hil',hsx4,d1,strC_eq,h1,h3,↓gd]
    repeat refine And.intro (by omega) ?_
    exact ⟨x.caller.strs.length - (i+1),by omega,i+1,rfl,by omega,by simp⟩
   ·simp -implicitDefEqProofs (maxSteps:=1000000) (disch:=omega) only [push_cast,simprocAttr,h10,h11,h12,h13,hil',hsx4,d1,strC_eq,h1,↓gd]
    repeat refine And.intro (by omega) ?_
    exact ⟨x.caller.strs.length - (i+1),by omega,i+1,rfl,by omega,by simp⟩
  ·have hik':¬(i:Int)=k:=by omega
   have hn1:¬sb.state=1:=by rcases hst with h | h <;> omega
   simp -implicitDefEqProofs (maxSteps:=1000000) (disch:=omega) only [push_cast,simprocAttr,h10,h11,h12,h13,hil',hsx4,d1,strC_eq,hik',hn1,↓gd]
   repeat refine And.intro (by omega) ?_
   exact ⟨x.caller.strs.length - (i+1),by omega,i+1,rfl,by omega,by simp⟩
 ·have:i=x.caller.strs.length:=by omega
  subst this
  have hil':¬((x.caller.strs.length:Nat):Int) < x.caller.strs.length:=by omega
  simp -implicitDefEqProofs (maxSteps:=1000000) (disch:=omega) only [push_cast,simprocAttr,h10,h12,h13,hil',↓gd]
  refine ((lkTrue_ok hB hW60 hT (q4.at_.app _)).as (by simp [wV,wC,enC])).mono ?_
  rintro r S5 ⟨rfl,hu⟩
  have kx:=hu.get (j:=S4.length) (B:=.cells 0 (wC b4 c4 d4 f4 x)) (by simp -implicitDefEqProofs (maxSteps:=1000000) (disch:=omega) only [push_cast,simprocAttr,↓gd]) (by simp)
  simp -implicitDefEqProofs (maxSteps:=1000000) (disch:=omega) only [push_cast,simprocAttr,h12,kx,g1,decide_true,↓gd]
  exact ⟨_,_,Wk.refl _ _ _,rfl⟩
end
end Go.Proofs.YtaamlddnpamomaaGreatDoor
