/- A part of the proof: contracts of functions, or plain facts on which these lean. -/
import Derived.Test.YtaamlddnpamomaaGreatDoorMe33
import Derived.Test.YtaamlddnpamomaaGreatDoorMe35
import Derived.Test.YtaamlddnpamomaaGreatDoorMe41
namespace Go.Proofs.YtaamlddnpamomaaGreatDoor
open Go
set_option linter.unusedVariables false
set_option linter.unusedSimpArgs false
set_option maxRecDepth 100000
set_option maxHeartbeats 16000000

section
open Go
structure CallH (path text:List UInt8) (c1 c2:En) (b:List UInt8) (a:En) (s:St):Prop where
 call:endCallM (newEn false) path text=(c1,1,true)
 b1:EnB c1
 say:endWriteM c1=(c2,b)
 b2:EnB c2
 short:b.length≤300
 hear:endHearM (newEn true) b=a
 b3:EnB a
 got:HeardC path text c2 b a s
theorem call_heard {path text:List UInt8} (hp:wordOk path=true) (ht:wordOk text=true):∃c1 c2 b a s,CallH path text c1 c2 b a s:=by
 obtain ⟨h1,h2,s,h3⟩:=hear_call hp ht
 have hok:endOk (newEn false)=true:=by decide +kernel
 have hok2:endOk (newEn true)=true:=by decide +kernel
 have e1:endCallM (newEn false) path text=callM (newEn false) path text:=by rw [endCallM,if_neg (by rw [hok]; decide)]
 have hcw:=callM_w (newEn_w false) path text
 have hcb:(callM (newEn false) path text).1.bad=false:=by
  unfold callM
  split <;> rfl
 have hcok:endOk (callM (newEn false) path text).1=true:=endOk_iff.2 (hcw.mono (by decide))
 have e2:endWriteM (callM (newEn false) path text).1=writeM (callM (newEn false) path text).1:=by
  rw [endWriteM,if_neg (by rw [hcok]; decide),if_neg (by rw [hcb]; decide)]
 have hs:=h3.short
 have e3:endHearM (newEn true) (writeM (callM (newEn false) path text).1).2=hearM (newEn true) (writeM (callM (newEn false) path text).1).2:=by
  rw [endHearM,if_neg (by rw [hok2]; rintro (z | z); cases z; omega),hearWM,if_neg]
  rintro (z | z | z)
  ·cases z
  ·have:(newEn true).came.length=0:=rfl
   omega
  ·have:(newEn true).wait.length=0:=rfl
   omega
 have b3:=endHearM_b (newEn true) (writeM (callM (newEn false) path text).1).2
 rw [e3] at b3
 exact ⟨_,_,_,_,s,by rw [e1]; exact Prod.ext rfl (Prod.ext h2 h1),hcw.b (by decide),by rw [e2],(writeM_w hcw).b (by decide),hs,e3,b3,h3⟩
theorem FnHearCall_ok (code:List UInt8) (S:List Blk):VCall Tryz.prog 8 [.rows none (code.map u8V)] S fun r S'=>r=.bool true:=by
 refine VCall.ex hDe (fun _=>false) (fun id=>if id=16 then [28,28,28,28,28,28,28,28,28,28,28,28,28,28,28,28,28,28,28,28,28,28,28,28,28,28,28,28,31,31,31] else []) Tryz.func8 Tryz.ntmps8 Tryz.results8 ?_
 by_cases hc:(code.length:Int) > 1048576
 ·simp -implicitDefEqProofs (maxSteps:=1000000) (disch:=omega) only [push_cast,simprocAttr,hc,↓gd]
  exact ⟨_,_,Wk.refl _ _ _,rfl⟩
 simp -implicitDefEqProofs (maxSteps:=1000000) (disch:=omega) only [push_cast,simprocAttr,hc,↓gd]
 refine (DrawEndCall_ok code (by omega) _).mono ?_
 rintro r S1 ⟨e,path,text,b,c,⟨wire,hw⟩,hpl,htl,rfl,q1⟩
 have hB:=hw.b.1
 have hspec:=fun (Z:List Blk) (q:EnAt Z b c e)=>sEndCall_ok hB path text (by omega) (by omega) q
 have hEC:=fun (Z:List Blk) (q:EnAt Z b c e)=>EndCall_ok hB path text (by omega) (by omega) q
 have hXB:EnB (endCallM e path text).1:=endCallM_b hB path text
 generalize endCallM e path text=X at *
 obtain ⟨x,id,ok⟩:=X
 simp only at hspec hEC hXB
 simp -implicitDefEqProofs (maxSteps:=1000000) (disch:=omega) only [push_cast,simprocAttr,↓gd]
 refine ((hspec _ (q1.at_.app _)).as (by simp [eV,enV,enC])).mono ?_
 rintro r S2 ⟨_,rfl,b2,c2,rfl,q2⟩
 have k3:S2[S1.length]?=some (.cells 0 (enC (.heap b e.strs.length) (.heap c e.wait.length) e)):=q2.upd.get (by simp -implicitDefEqProofs (maxSteps:=1000000) (disch:=omega) only [push_cast,simprocAttr,↓gd]) (by simp)
 have hat2:=(q1.at_.app [(.cells 0 (enC (.heap b e.strs.length) (.heap c e.wait.length) e))]).upd q2.upd (by simp) (by simp)
 have l3:=lt_of_some k3
 simp -implicitDefEqProofs (maxSteps:=1000000) (disch:=omega) only [push_cast,simprocAttr,k3,↓gd]
 refine ((hEC _ (hat2.app _)).as (by simp [eV,enV,enC])).mono ?_
 rintro r S3 ⟨_,rfl,b3,c3,rfl,q3⟩
 have k3':=q3.upd.get (j:=S1.length) (B:=(.cells 0 (enC (.heap b e.strs.length) (.heap c e.wait.length) e))) (by simp -implicitDefEqProofs (maxSteps:=1000000) (disch:=omega) only [push_cast,simprocAttr,k3,↓gd]) (by simp)
 have k4':=q3.upd.get (j:=S2.length) (B:=(.cells 0 (enC (.heap b2 x.strs.length) (.heap c2 x.wait.length) x))) (by simp -implicitDefEqProofs (maxSteps:=1000000) (disch:=omega) only [push_cast,simprocAttr,↓gd]) (by simp)
 have hs3:=(q2.at_.app [(.cells 0 (enC (.heap b2 x.strs.length) (.heap c2 x.wait.length) x))]).upd q3.upd (by simp) (by simp)
 have hx3:=q3.at_
 have l3':=lt_of_some k3'
 have l4':=lt_of_some k4'
 simp -implicitDefEqProofs (maxSteps:=1000000) (disch:=omega) only [push_cast,simprocAttr,k3',k4',↓gd]
 refine ((lkEnd_self hXB (hx3.app _) (hs3.app _)).as (by simp [eV,enV,enC])).to ?_
 simp -implicitDefEqProofs (maxSteps:=1000000) (disch:=omega) only [push_cast,simprocAttr,k3',k4',↓gd]
 refine ((WordOk_ok path (by omega) _).as rfl).to ?_
 cases hp:wordOk path
 ·simp -implicitDefEqProofs (maxSteps:=1000000) (disch:=omega) only [push_cast,simprocAttr,k3',k4',↓gd]
  refine ((lkEnd_self hXB (hx3.app _) (hs3.app _)).as (by simp [eV,enV,enC])).to ?_
  simp -implicitDefEqProofs (maxSteps:=1000000) (disch:=omega) only [push_cast,simprocAttr,↓gd]
  exact ⟨_,_,Wk.refl _ _ _,rfl⟩
 simp -implicitDefEqProofs (maxSteps:=1000000) (disch:=omega) only [push_cast,simprocAttr,k3',k4',↓gd]
 refine ((WordOk_ok text (by omega) _).as rfl).to ?_
 cases ht:wordOk text
 ·simp -implicitDefEqProofs (maxSteps:=1000000) (disch:=omega) only [push_cast,simprocAttr,k3',k4',↓gd]
  refine ((lkEnd_self hXB (hx3.app _) (hs3.app _)).as (by simp [eV,enV,enC])).to ?_
  simp -implicitDefEqProofs (maxSteps:=1000000) (disch:=omega) only [push_cast,simprocAttr,↓gd]
  exact ⟨_,_,Wk.refl _ _ _,rfl⟩
 clear hspec hEC
 obtain ⟨d1,d2,o,a,s,hH⟩:=call_heard hp ht
 have hN1:=fun (Z:List Blk) (b c:Nat) (q:EnAt Z b c (newEn false))=>EndCall_ok (newEn_b false) path text (by omega) (by omega) q
 rw [hH.call] at hN1
 have hN2:=fun (Z:List Blk) (b c:Nat) (q:EnAt Z b c d1)=>EndWrite_ok hH.b1 q
 rw [hH.say] at hN2
 have hN3:=fun (Z:List Blk) (b c:Nat) (q:EnAt Z b c (newEn true))=>EndHear_ok (newEn_b true) o (by have:=hH.short; omega) q
 rw [hH.hear] at hN3
 simp only at hN1 hN2 hN3
 have g:=hH.got
 have g1:=g.nb
 have g2:=g.strs
 have g3:=g.get
 have g4:=g.txt
 have g5:=g.heard
 obtain ⟨g6,g7⟩:=g.tab
 have g8:=g.headOk
 have ha:=hH.b3
 have hgl:FdsB s.got:=(ha.sts s (by rw [g2]; exact List.mem_singleton.2 rfl)).got
 have hlk:=fun T=>lkTable_self a.inn a.innM ha.inn.1 T
 have hget:=fun T=>HeadGet_ok s.got hgl [58,112,97,116,104] T
 have hgm:headGetM s.got [58,112,97,116,104]=(path,true):=by rw [headGetM,if_pos g8]; exact g3
 rw [hgm] at hget
 have hsl1:a.strs.length=1:=by rw [g2]; rfl
 have hcells:strsC a.strs=strC s:=by rw [g2]; simp [strsC]
 simp -implicitDefEqProofs (maxSteps:=1000000) (disch:=omega) only [push_cast,simprocAttr,↓gd]
 refine (EndNew_ok false _).mono ?_
 rintro r S5 ⟨b5,c5,rfl,q5⟩
 simp -implicitDefEqProofs (maxSteps:=1000000) (disch:=omega) only [push_cast,simprocAttr,↓gd]
 refine ((hN1 _ b5 c5 q5.at_).as (by simp [eV,enV,enC,newEn])).mono ?_
 rintro r S6 ⟨_,rfl,b6,c6,rfl,q6⟩
 simp -implicitDefEqProofs (maxSteps:=1000000) (disch:=omega) only [push_cast,simprocAttr,↓gd]
 refine ((hN2 _ b6 c6 (q6.at_.app _)).as (by simp [eV,enV,enC])).mono ?_
 rintro r S7 ⟨_,rfl,b7,c7,rfl,q7⟩
 have k7:=q7.upd.get (j:=S6.length) (B:=.cells 0 (enC (.heap b6 d1.strs.length) (.heap c6 d1.wait.length) d1)) (by simp -implicitDefEqProofs (maxSteps:=1000000) (disch:=omega) only [push_cast,simprocAttr,↓gd]) (by simp)
 have l7:=lt_of_some k7
 simp -implicitDefEqProofs (maxSteps:=1000000) (disch:=omega) only [push_cast,simprocAttr,k7,↓gd]
 refine (EndNew_ok true _).mono ?_
 rintro r S8 ⟨b8,c8,rfl,q8⟩
 have k8:=q8.upd.get (j:=S6.length) (B:=.cells 0 (enC (.heap b7 d2.strs.length) (.heap c7 d2.wait.length) d2)) (by simp -implicitDefEqProofs (maxSteps:=1000000) (disch:=omega) only [push_cast,simprocAttr,↓gd]) (by simp)
 have l8:=lt_of_some k8
 simp -implicitDefEqProofs (maxSteps:=1000000) (disch:=omega) only [push_cast,simprocAttr,k8,↓gd]
 refine ((hN3 _ b8 c8 q8.at_).as (by simp [eV,enV,enC,newEn])).mono ?_
 rintro r S9 ⟨b9,c9,rfl,q9⟩
 have k9:=q9.upd.get k8 (by simp)
 have l9:=lt_of_some k9
 have hb9:=q9.at_.1
 rw [hcells] at hb9
 have lb9:=lt_of_some hb9
 simp -implicitDefEqProofs (maxSteps:=1000000) (disch:=omega) only [push_cast,simprocAttr,g1,hsl1,hb9,k9,↓gd]
 refine ((hget _).as (by rfl)).to ?_
 have emin:(if (8:Int) < (text.length:Int) then (8:Int) else (text.length:Int))=((min text.length 8:Nat):Int):=by omega
 have hnl:min text.length 8≤text.length:=Nat.min_le_left ..
 generalize min text.length 8=n at *
 have hnl':(n:Int)≤text.length:=by omega
 have hdec:decide ((n:Int)=(text.length:Int))=decide (n=text.length):=decide_eq_decide.2 ⟨fun h=>by omega,fun h=>by omega⟩
 simp -implicitDefEqProofs (maxSteps:=1000000) (disch:=omega) only [push_cast,simprocAttr,k9,emin,g4,g5,hnl',hdec,decide_true,↓gd]
 refine ⟨by omega,?_⟩
 refine ((hlk _).as (by rw [←g6,←g7]; rfl)).to ?_
 simp -implicitDefEqProofs (maxSteps:=1000000) (disch:=omega) only [push_cast,simprocAttr,↓gd]
 exact ⟨_,_,Wk.refl _ _ _,rfl⟩
end
end Go.Proofs.YtaamlddnpamomaaGreatDoor
