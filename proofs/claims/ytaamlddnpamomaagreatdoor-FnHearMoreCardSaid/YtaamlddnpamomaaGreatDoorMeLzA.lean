/- A part of the proof: contracts of functions, or plain facts on which these lean. -/
import Derived.Test.YtaamlddnpamomaaGreatDoorMe35
import Derived.Test.YtaamlddnpamomaaGreatDoorMe40
namespace Go.Proofs.YtaamlddnpamomaaGreatDoor
open Go
set_option linter.unusedVariables false
set_option linter.unusedSimpArgs false
set_option maxRecDepth 100000
set_option maxHeartbeats 16000000

section
open Go
theorem FnHearMore_ok (code more:List UInt8) (S:List Blk):VCall Tryz.prog 5 [.rows none (code.map u8V),.rows none (more.map u8V)] S fun r S'=>r=.bool true:=by
 refine VCall.ex hDe (fun f=> if f=none then true else false) (fun id=>if id=5 then [4,3,3,4,8,8,8,8,26,26,26,26,26,26,26,26,26,26,26,26,26,26,26,26,26,26] else if id=6 then [4,3,3,4,6,6] else if id=8 then [9,9,9,9,9,9,1000000,1000000,1000000,10,8] else []) Tryz.func5 Tryz.ntmps5 Tryz.results5 ?_
 by_cases hc:(code.length:Int) > 1048576
 ·simp -implicitDefEqProofs (maxSteps:=1000000) (disch:=omega) only [push_cast,simprocAttr,hc,↓gd]
  exact ⟨_,_,Wk.refl _ _ _,rfl⟩
 by_cases hc2:(more.length:Int) > 1048576
 ·simp -implicitDefEqProofs (maxSteps:=1000000) (disch:=omega) only [push_cast,simprocAttr,hc,hc2,↓gd]
  exact ⟨_,_,Wk.refl _ _ _,rfl⟩
 simp -implicitDefEqProofs (maxSteps:=1000000) (disch:=omega) only [push_cast,simprocAttr,hc,hc2,↓gd]
 refine (DrawEndHear_ok code (by omega) _).mono ?_
 rintro r S1 ⟨e,bs,b,c,⟨wire,hw⟩,hbs,rfl,q1⟩
 have hB:=hw.b.1
 simp -implicitDefEqProofs (maxSteps:=1000000) (disch:=omega) only [push_cast,simprocAttr,↓gd]
 have hEH:=fun (Z:List Blk) (q:EnAt Z b c e)=>EndHear_ok hB bs (by omega) q
 have hspec:=fun (Z:List Blk) (q:EnAt Z b c e)=>sEndHear_ok hB bs (by omega) q
 have hXB:=endHearM_b e bs
 generalize hx:endHearM e bs=x at *
 refine ((hEH _ (q1.at_.app _)).as (by simp [eV,enV,enC])).mono ?_
 rintro r S2 ⟨b2,c2,rfl,q2⟩
 have k5:S2[S1.length]?=some (.cells 0 (enC (.heap b e.strs.length) (.heap c e.wait.length) e)):=q2.upd.get (by simp -implicitDefEqProofs (maxSteps:=1000000) (disch:=omega) only [push_cast,simprocAttr,↓gd]) (by simp)
 have hat2:=(q1.at_.app [(.cells 0 (enC (.heap b e.strs.length) (.heap c e.wait.length) e))]).upd q2.upd (by simp) (by simp)
 have l5:=lt_of_some k5
 have hX:=q2.at_
 simp -implicitDefEqProofs (maxSteps:=1000000) (disch:=omega) only [push_cast,simprocAttr,k5,↓gd]
 refine ((hspec _ (hat2.app _)).as (by simp [eV,enV,enC])).mono ?_
 rintro r S3 ⟨b3,c3,rfl,q3⟩
 have k5':=q3.upd.get (j:=S1.length) (B:=(.cells 0 (enC (.heap b e.strs.length) (.heap c e.wait.length) e))) (by simp -implicitDefEqProofs (maxSteps:=1000000) (disch:=omega) only [push_cast,simprocAttr,k5,↓gd]) (by simp)
 have k7':=q3.upd.get (j:=S2.length) (B:=(.cells 0 (enC (.heap b2 x.strs.length) (.heap c2 x.wait.length) x))) (by simp -implicitDefEqProofs (maxSteps:=1000000) (disch:=omega) only [push_cast,simprocAttr,↓gd]) (by simp)
 have hat3:=(hat2.app [(.cells 0 (enC (.heap b2 x.strs.length) (.heap c2 x.wait.length) x))]).upd q3.upd (by simp) (by simp)
 have hX3:=(hX.app [(.cells 0 (enC (.heap b2 x.strs.length) (.heap c2 x.wait.length) x))]).upd q3.upd (by simp) (by simp)
 simp -implicitDefEqProofs (maxSteps:=1000000) (disch:=omega) only [push_cast,simprocAttr,k5,k5',k7',↓gd]
 refine ((lkEnd_self hXB hX3 q3.at_).as (by simp [eV,enV,enC])).to ?_
 simp -implicitDefEqProofs (maxSteps:=1000000) (disch:=omega) only [push_cast,simprocAttr,k5',k7',↓gd]
 refine ((sEndOk_at hB hat3).as (by simp [eV,enV,enC])).to ?_
 cases hE:endOk e
 ·simp -implicitDefEqProofs (maxSteps:=1000000) (disch:=omega) only [push_cast,simprocAttr,k5',k7',↓gd]
  refine ((hspec _ hat3).as (by simp [eV,enV,enC])).mono ?_
  rintro r S4 ⟨b4,c4,rfl,q4⟩
  have k7'':=q4.upd.get k7' (by simp)
  simp -implicitDefEqProofs (maxSteps:=1000000) (disch:=omega) only [push_cast,simprocAttr,k5',k7',k7'',↓gd]
  refine ((lkEnd_self hXB (hX3.upd q4.upd (by simp) (by simp)) q4.at_).as (by simp [eV,enV,enC])).to ?_
  simp -implicitDefEqProofs (maxSteps:=1000000) (disch:=omega) only [push_cast,simprocAttr,↓gd]
  exact ⟨_,_,Wk.refl _ _ _,rfl⟩
 have hwl:=hB.wait
 have hcl:=hB.came
 cases hb:e.bad
 rotate_left
 ·simp -implicitDefEqProofs (maxSteps:=1000000) (disch:=omega) only [push_cast,simprocAttr,k5',k7',hb,↓gd]
  refine ((hspec _ hat3).as (by simp [eV,enV,enC,hb])).mono ?_
  rintro r S4 ⟨b4,c4,rfl,q4⟩
  have k7'':=q4.upd.get k7' (by simp)
  simp -implicitDefEqProofs (maxSteps:=1000000) (disch:=omega) only [push_cast,simprocAttr,k5',k7',k7'',hb,↓gd]
  refine ((lkEnd_self hXB (hX3.upd q4.upd (by simp) (by simp)) q4.at_).as (by simp [eV,enV,enC,hb])).to ?_
  simp -implicitDefEqProofs (maxSteps:=1000000) (disch:=omega) only [push_cast,simprocAttr,↓gd]
  exact ⟨_,_,Wk.refl _ _ _,rfl⟩
 by_cases h3:e.came=[]
 rotate_left
 ·simp -implicitDefEqProofs (maxSteps:=1000000) (disch:=omega) only [push_cast,simprocAttr,k5',k7',hb,h3,↓gd]
  refine ((hspec _ hat3).as (by simp [eV,enV,enC,hb,h3])).mono ?_
  rintro r S4 ⟨b4,c4,rfl,q4⟩
  have k7'':=q4.upd.get k7' (by simp)
  simp -implicitDefEqProofs (maxSteps:=1000000) (disch:=omega) only [push_cast,simprocAttr,k5',k7',k7'',hb,h3,↓gd]
  refine ((lkEnd_self hXB (hX3.upd q4.upd (by simp) (by simp)) q4.at_).as (by simp [eV,enV,enC,hb,h3])).to ?_
  simp -implicitDefEqProofs (maxSteps:=1000000) (disch:=omega) only [push_cast,simprocAttr,↓gd]
  exact ⟨_,_,Wk.refl _ _ _,rfl⟩
 by_cases h4:(e.wait.length:Int) > 40
 ·simp -implicitDefEqProofs (maxSteps:=1000000) (disch:=omega) only [push_cast,simprocAttr,k5',k7',hb,h3,h4,↓gd]
  refine ((hspec _ hat3).as (by simp [eV,enV,enC,hb,h3,h4])).mono ?_
  rintro r S4 ⟨b4,c4,rfl,q4⟩
  have k7'':=q4.upd.get k7' (by simp)
  simp -implicitDefEqProofs (maxSteps:=1000000) (disch:=omega) only [push_cast,simprocAttr,k5',k7',k7'',hb,h3,h4,↓gd]
  refine ((lkEnd_self hXB (hX3.upd q4.upd (by simp) (by simp)) q4.at_).as (by simp [eV,enV,enC,hb,h3,h4])).to ?_
  simp -implicitDefEqProofs (maxSteps:=1000000) (disch:=omega) only [push_cast,simprocAttr,↓gd]
  exact ⟨_,_,Wk.refl _ _ _,rfl⟩
 clear hspec hEH
 have htm:Int.tmod (more.length:Int) 31=((more.length % 31:Nat):Int):=tmod_nat more.length 31
 have hk:more.length % 31≤30:=by omega
 generalize more.length % 31=k at hk htm
 obtain ⟨hf,p1,p2⟩:=hear_more (n:=1+k) hE hb h3 (by omega) ⟨by omega,by omega⟩
 have hcast:((1+k:Nat):Int)=1+(k:Int):=by omega
 rw [hcast] at p1 p2
 have hfl:=flowOk_iff.1 (endOk_iff.1 hE).flow
 have hYB:=endHearM_b e (frW ⟨8,false,0,[by8 (1+k)]⟩)
 have hE1:=fun (Z:List Blk) (q:EnAt Z b c e)=>EndHear_ok hB (frW ⟨8,false,0,[by8 (1+k)]⟩) (by simp [frW]) q
 have hFW:=fun T=>FrameWrite_ok ⟨8,false,0,[by8 (1+k)]⟩ T
 rw [hf] at hFW
 generalize hy:endHearM e (frW ⟨8,false,0,[by8 (1+k)]⟩)=y at *
 have hbyte:(UInt8.ofNat (IntKind.u8.wrap ((1:Int)+k)).toNat)=by8 (1+k):=by
  rw [byte_wrap,show ((1:Int)+k) % 256=((1+k:Nat):Int) by omega]
  rfl
 have hb2:UInt8.ofNat ((1:Int)+k).toNat=by8 (1+k):=by rw [show ((1:Int)+k).toNat=1+k by omega]; rfl
 simp -implicitDefEqProofs (maxSteps:=1000000) (disch:=omega) only [push_cast,simprocAttr,k5',k7',hb,h3,h4,htm,hb2,↓gd]
 refine ((hFW _).as (by simp [frV,frmC,hb2])).to ?_
 simp -implicitDefEqProofs (maxSteps:=1000000) (disch:=omega) only [push_cast,simprocAttr,k5',k7',hb,h3,h4,htm,hbyte,↓gd]
 refine ((hE1 _ hat3).as (by simp [eV,enV,enC,hb,h3])).mono ?_
 rintro r S4 ⟨b4,c4,rfl,q4⟩
 have m5:=q4.upd.get k5' (by simp)
 have hat4:=hat3.upd q4.upd (by simp) (by simp)
 have l5:=lt_of_some m5
 by_cases hsn:e.send+((1:Int)+k) > 31
 ·have hyb:=p1 (by omega)
  simp -implicitDefEqProofs (maxSteps:=1000000) (disch:=omega) only [push_cast,simprocAttr,m5,k5',htm,hsn,hyb,↓gd]
  refine ⟨rfl,?_⟩
  exact ⟨_,_,Wk.refl _ _ _,rfl⟩
 ·have hye:=p2 (by omega)
  have hz:EnAt S4 b4 c4 e:=by
   have:=q4.at_
   rw [hye] at this
   exact this
  have hyl:y.strs.length=e.strs.length:=by rw [hye]
  have hyw:y.wait.length=e.wait.length:=by rw [hye]
  subst hye
  simp -implicitDefEqProofs (maxSteps:=1000000) (disch:=omega) only [push_cast,simprocAttr,m5,k5',htm,hsn,↓gd]
  refine ⟨rfl,?_⟩
  refine ((lkEnd_self hB (hz.app _) (hat4.app _)).as (by simp [eV,enV,enC])).to ?_
  simp -implicitDefEqProofs (maxSteps:=1000000) (disch:=omega) only [push_cast,simprocAttr,↓gd]
  exact ⟨_,_,Wk.refl _ _ _,rfl⟩
end
end Go.Proofs.YtaamlddnpamomaaGreatDoor
