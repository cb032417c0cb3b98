/- A part of the proof: contracts of functions, or plain facts on which these lean. -/
import Derived.Test.YtmfamfjfnjckeaaGreatDoorNa40
import Derived.Test.YtmfamfjfnjckeaaGreatDoorNaLwP
namespace Go.Proofs.YtmfamfjfnjckeaaGreatDoor
open Go
set_option linter.unusedVariables false
set_option linter.unusedSimpArgs false
set_option maxRecDepth 100000
set_option maxHeartbeats 16000000

section
open Go
theorem FnWorldAsked_ok (code:List UInt8) (S:List Blk):VCall Tryz.prog 5 [.rows none (code.map u8V)] S fun r S'=>r=.bool true:=by
 refine VCall.ex hDe (fun _=>false) (fun id=>if id=13 then [7,7,7,7,7,7,7,18,18,18,18,18,18,18,18,18,18,18,21,21,21] else []) Tryz.func5 Tryz.ntmps5 Tryz.results5 ?_
 by_cases hc:(code.length:Int) > 1048576
 ·simp -implicitDefEqProofs (maxSteps:=1000000) (disch:=omega) only [push_cast,simprocAttr,hc,↓gd]
  exact ⟨_,_,Wk.refl _ _ _,rfl⟩
 simp -implicitDefEqProofs (maxSteps:=1000000) (disch:=omega) only [push_cast,simprocAttr,hc,↓gd]
 refine (DrawWorldPlay_ok code (by omega) _).mono ?_
 rintro r S0 ⟨l,hl,hv,rfl,rfl⟩
 have hvB:=fun v hm=>(hv v hm).b
 simp -implicitDefEqProofs (maxSteps:=1000000) (disch:=omega) only [push_cast,simprocAttr,↓gd]
 refine (WorldPlay_ok l (by omega) hvB (fun _ i _=>play_ends l i) _).mono ?_
 rintro r S1 ⟨u,rfl,b,c,d,f,rfl,q1⟩
 have hspec:=fun Z=>sWorldPlay_ok l (by omega) hvB Z
 have hXB:=play_b l
 have hpl:=play_pl l
 generalize worldPlayM l=W at *
 obtain ⟨w,ok⟩:=W
 simp only at hspec hXB hpl q1
 simp -implicitDefEqProofs (maxSteps:=1000000) (disch:=omega) only [push_cast,simprocAttr,↓gd]
 refine (hspec _).mono ?_
 rintro r S2 ⟨u2,rfl,b2,c2,d2,f2,rfl,q2⟩
 have kw:S2[S1.length]?=some (.cells 0 (wC b c d f w)):=q2.upd.get (by simp -implicitDefEqProofs (maxSteps:=1000000) (disch:=omega) only [push_cast,simprocAttr,↓gd]) (by simp)
 have hat:=(q1.at_.app _).upd0 q2.upd
 have lw:=lt_of_some kw
 simp -implicitDefEqProofs (maxSteps:=1000000) (disch:=omega) only [push_cast,simprocAttr,kw,↓gd]
 refine ((lkWorld_self hXB (hat.app _) (q2.at_.app _)).as (by simp [wV,wC,enC])).to ?_
 cases hok:ok
 ·simp -implicitDefEqProofs (maxSteps:=1000000) (disch:=omega) only [push_cast,simprocAttr,kw,↓gd]
  refine ((lkWorld_self hXB (hat.app _) (q2.at_.app _)).as (by simp [wV,wC,enC])).to ?_
  simp -implicitDefEqProofs (maxSteps:=1000000) (disch:=omega) only [push_cast,simprocAttr,↓gd]
  exact ⟨_,_,Wk.refl _ _ _,rfl⟩
 obtain ⟨hP,hle,hplay⟩:=hpl hok
 have hat:=hat.app [.cells 0 (wC b2 c2 d2 f2 w)]
 have kw2:(S2++[.cells 0 (wC b2 c2 d2 f2 w)])[S1.length]?=some (.cells 0 (wC b c d f w)):=by rw [List.getElem?_append_left lw]; exact kw
 obtain ⟨fu,fd,hs⟩:=hP.syn
 have hJ:=hs.j
 have hal:=hXB.answerer.len
 have hcl:=hXB.caller.len
 have hsl:=strsC_len w.answerer.strs
 have hlen:=hJ.toJ0.len
 simp -implicitDefEqProofs (maxSteps:=1000000) (disch:=omega) only [push_cast,simprocAttr,kw2,↓gd]
 refine wpV_loop (fun m t S'=>∃i:Nat,m=w.answerer.strs.length - i∧i≤w.answerer.strs.length∧t 4=.ptr S1.length 0∧t 8=.int .i64 i∧Upd [] (S2++[.cells 0 (wC b2 c2 d2 f2 w)]) S') w.answerer.strs.length ⟨0,by omega,by omega,rfl,rfl,by simp only [wC,enC,List.cons_append,List.nil_append]; exact Upd.refl _ _⟩ ?_
 rintro m t S' ⟨i,rfl,hi,h4,h8,hu⟩
 refine wpV_of hDe (fun _=>false) (fun id=>if id=13 then [7,7,7,7,7,7,7,18,18,18,18,18,18,18,18,18,18,18,21,21,21] else []) (by kernel_rfl) ?_
 have kw':=hu.get kw2 (by simp)
 have hat':=hat.upd0 hu
 have hsa:=hat'.answerer.1
 have lkw:=lt_of_some kw'
 have lsa:=lt_of_some hsa
 by_cases hil:i < w.answerer.strs.length
 ·have hil':(i:Int) < w.answerer.strs.length:=by omega
  have hat2:=strsC_at hil
  obtain ⟨k,hk,a1,⟨u,a2⟩,a3,a4⟩:=hJ.toJ0.askedAll hil
  have hstep:=fun T (q:EnAt T b c w.caller)=>lkStep_ok hXB.caller q hk
  have hcB:StB (stAt w.caller k):=hXB.caller.sts _ (getD_memS (atM_some hk).1)
  have hsok:=stOk_iff.1 (hP.all.1.answerer.st hil)
  have hcok:=stOk_iff.1 (hP.all.1.caller.st (atM_some hk).1)
  have hx:w.answerer.strs.getD i st0=stAt w.answerer i:=rfl
  rw [hx] at hat2
  have hg1:headGetM (stAt w.caller k).head sPath=getM (stAt w.caller k).head sPath:=by rw [headGetM,if_pos hcok.2.2.1]
  have hG1:=fun T=>HeadGet_ok (stAt w.caller k).head hcB.head sPath T
  rw [hg1] at hG1
  have hlay:=(wordOk_iff.1 hcok.2.2.2.2.1).2
  have hltx:=(wordOk_iff.1 hsok.2.2.2.2.2.1).2
  have hA:=fun T=>EndAnswer_ok (getM (stAt w.caller k).head sPath).1 (stAt w.caller k).say (by omega) T
  obtain ⟨hs0,hs1⟩:=hcok.2.2.2.2.2.2.1
  have hFl:=fun T=>lkFields_self (stAt w.caller k).head hcB.head.1 T
  clear hk hsok hcok hcB hg1
  generalize stAt w.answerer i=s at *
  generalize stAt w.caller k=q at *
  obtain ⟨n,hn⟩:=Int.eq_ofNat_of_zero_le hs0
  rw [hn] at hs1 a2
  have hn2:(n:Int)≤q.say.length:=hs1
  have a2:q.say.take n=s.text++u:=a2
  have hul:s.text.length+u.length≤1000000:=by have:=congrArg List.length a2; rw [List.length_take,List.length_append] at this; omega
  have hBg:=fun T=>lkBegins_self s.text u hul T
  generalize getM q.head sPath=P at *
  obtain ⟨path,pg⟩:=P
  simp only at hA a3 hG1
  generalize answerM path q.say=A at *
  obtain ⟨stt,tx⟩:=A
  simp only at hA a3
  simp -implicitDefEqProofs (maxSteps:=1000000) (disch:=omega) only [push_cast,simprocAttr,h4,h8,hil',kw',hsa,hat2,↓gd]
  repeat refine And.intro (by omega) ?_
  refine ((hstep _ (hat'.caller.app _)).as (by simp [eV,enV,enC])).to ?_
  simp -implicitDefEqProofs (maxSteps:=1000000) (disch:=omega) only [push_cast,simprocAttr,h4,h8,kw',↓gd]
  refine ((hFl _).as (by simp [a1])).to ?_
  simp -implicitDefEqProofs (maxSteps:=1000000) (disch:=omega) only [push_cast,simprocAttr,h4,h8,hn,hn2,a2,↓gd]
  repeat refine And.intro (by omega) ?_
  refine ((hBg _).as rfl).to ?_
  simp -implicitDefEqProofs (maxSteps:=1000000) (disch:=omega) only [push_cast,simprocAttr,h4,h8,↓gd]
  refine ((hG1 _).as (by simp [sPath])).to ?_
  simp -implicitDefEqProofs (maxSteps:=1000000) (disch:=omega) only [push_cast,simprocAttr,h4,h8,↓gd]
  refine ((hA _).as rfl).to ?_
  have fin:∃m' < w.answerer.strs.length - i,∃j:Nat,m'=w.answerer.strs.length - j∧j≤w.answerer.strs.length∧j=i+1:=⟨w.answerer.strs.length - (i+1),by omega,i+1,rfl,by omega,rfl⟩
  by_cases hh:s.head=[]
  ·have hh':¬(s.head.length:Int) > 0:=by rw [hh]; simp
   cases hhe:s.heard
   ·simp -implicitDefEqProofs (maxSteps:=1000000) (disch:=omega) only [push_cast,simprocAttr,h4,h8,hh',hhe,List.length_map,↓gd]
    exact ⟨w.answerer.strs.length - (i+1),by omega,i+1,rfl,by omega,by simp,hu.app _⟩
   ·have e1:=a4 hhe
    simp -implicitDefEqProofs (maxSteps:=1000000) (disch:=omega) only [push_cast,simprocAttr,h4,h8,hh',hhe,List.length_map,e1,↓gd]
    exact ⟨w.answerer.strs.length - (i+1),by omega,i+1,rfl,by omega,by simp,hu.app _⟩
  ·have hh':(s.head.length:Int) > 0:=by have:=List.length_pos_iff.2 hh; omega
   obtain ⟨e1,e2,e3⟩:=a3 hh
   simp -implicitDefEqProofs (maxSteps:=1000000) (disch:=omega) only [push_cast,simprocAttr,h4,h8,hh',e1,e2,e3,List.length_map,↓gd]
   exact ⟨w.answerer.strs.length - (i+1),by omega,i+1,rfl,by omega,by simp,hu.app _⟩
 ·have:i=w.answerer.strs.length:=by omega
  subst this
  have hil':¬((w.answerer.strs.length:Nat):Int) < w.answerer.strs.length:=by omega
  have hlen':(w.answerer.strs.length:Int)≤w.caller.strs.length:=by omega
  simp -implicitDefEqProofs (maxSteps:=1000000) (disch:=omega) only [push_cast,simprocAttr,h4,h8,hil',kw',hlen',decide_true,↓gd]
  exact ⟨_,_,Wk.refl _ _ _,rfl⟩
end
end Go.Proofs.YtmfamfjfnjckeaaGreatDoor
