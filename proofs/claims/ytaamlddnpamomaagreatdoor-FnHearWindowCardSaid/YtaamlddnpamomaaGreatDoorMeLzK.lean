/- A part of the proof: contracts of functions, or plain facts on which these lean. -/
import Derived.Test.YtaamlddnpamomaaGreatDoorMe35
import Derived.Test.YtaamlddnpamomaaGreatDoorMe40
import Derived.Test.YtaamlddnpamomaaGreatDoorMeLzI
namespace Go.Proofs.YtaamlddnpamomaaGreatDoor
open Go
set_option linter.unusedVariables false
set_option linter.unusedSimpArgs false
set_option maxRecDepth 100000
set_option maxHeartbeats 16000000

section
open Go
theorem win_ok:∀k,k < 9→frameOk ⟨0,false,1,sAH.take k⟩=true∧frameOk ⟨0,false,1,sAH.drop k⟩=true∧frameOk ⟨0,false,1,[105]⟩=true:=by decide +kernel
theorem FnHearWindow_ok (code more:List UInt8) (S:List Blk):VCall Tryz.prog 7 [.rows none (code.map u8V),.rows none (more.map u8V)] S fun r S'=>r=.bool true:=by
 refine VCall.ex hDe (fun _=>false) (fun id=>if id=5 then [4,3,3,4,6,6] else []) Tryz.func7 Tryz.ntmps7 Tryz.results7 ?_
 by_cases hc:(code.length:Int) > 1048576
 ·simp -implicitDefEqProofs (maxSteps:=1000000) (disch:=omega) only [push_cast,simprocAttr,hc,↓gd]
  exact ⟨_,_,Wk.refl _ _ _,rfl⟩
 by_cases hc2:(more.length:Int) > 1048576
 ·simp -implicitDefEqProofs (maxSteps:=1000000) (disch:=omega) only [push_cast,simprocAttr,hc,hc2,↓gd]
  exact ⟨_,_,Wk.refl _ _ _,rfl⟩
 simp -implicitDefEqProofs (maxSteps:=1000000) (disch:=omega) only [push_cast,simprocAttr,hc,hc2,↓gd]
 refine (DrawEndHear_ok code (by omega) _).mono ?_
 rintro r S1 ⟨e,bs,b,c,⟨wire,hw⟩,hbs,rfl,q1⟩
 have hB:=hw.b.1
 simp -implicitDefEqProofs (maxSteps:=1000000) (disch:=omega) only [push_cast,simprocAttr,↓gd]
 have hEH:=fun (Z:List Blk) (q:EnAt Z b c e)=>EndHear_ok hB bs (by omega) q
 have hspec:=fun (Z:List Blk) (q:EnAt Z b c e)=>sEndHear_ok hB bs (by omega) q
 have hXB:=endHearM_b e bs
 generalize hx:endHearM e bs=x at *
 refine ((hEH _ (q1.at_.app _)).as (by simp [eV,enV,enC])).mono ?_
 rintro r S2 ⟨b2,c2,rfl,q2⟩
 have k5:S2[S1.length]?=some (.cells 0 (enC (.heap b e.strs.length) (.heap c e.wait.length) e)):=q2.upd.get (by simp -implicitDefEqProofs (maxSteps:=1000000) (disch:=omega) only [push_cast,simprocAttr,↓gd]) (by simp)
 have hat2:=(q1.at_.app [(.cells 0 (enC (.heap b e.strs.length) (.heap c e.wait.length) e))]).upd q2.upd (by simp) (by simp)
 have l5:=lt_of_some k5
 have hX:=q2.at_
 simp -implicitDefEqProofs (maxSteps:=1000000) (disch:=omega) only [push_cast,simprocAttr,k5,↓gd]
 refine ((hspec _ (hat2.app _)).as (by simp [eV,enV,enC])).mono ?_
 rintro r S3 ⟨b3,c3,rfl,q3⟩
 have k5':=q3.upd.get (j:=S1.length) (B:=(.cells 0 (enC (.heap b e.strs.length) (.heap c e.wait.length) e))) (by simp -implicitDefEqProofs (maxSteps:=1000000) (disch:=omega) only [push_cast,simprocAttr,k5,↓gd]) (by simp)
 have k7':=q3.upd.get (j:=S2.length) (B:=(.cells 0 (enC (.heap b2 x.strs.length) (.heap c2 x.wait.length) x))) (by simp -implicitDefEqProofs (maxSteps:=1000000) (disch:=omega) only [push_cast,simprocAttr,↓gd]) (by simp)
 have hat3:=(hat2.app [(.cells 0 (enC (.heap b2 x.strs.length) (.heap c2 x.wait.length) x))]).upd q3.upd (by simp) (by simp)
 have hX3:=(hX.app [(.cells 0 (enC (.heap b2 x.strs.length) (.heap c2 x.wait.length) x))]).upd q3.upd (by simp) (by simp)
 simp -implicitDefEqProofs (maxSteps:=1000000) (disch:=omega) only [push_cast,simprocAttr,k5,k5',k7',↓gd]
 refine ((lkEnd_self hXB hX3 q3.at_).as (by simp [eV,enV,enC])).to ?_
 clear hspec hEH
 have htm:Int.tmod (more.length:Int) 9=((more.length % 9:Nat):Int):=tmod_nat more.length 9
 have hk:more.length % 9 < 9:=Nat.mod_lt _ (by decide)
 generalize more.length % 9=k at hk htm
 obtain ⟨w1,w2,w3,w4,w5,w6⟩:=window k hk
 obtain ⟨f1,f2,f3⟩:=win_ok k hk
 obtain ⟨a1,a2,a3,a4⟩:=fr_ok
 have hkk:(k:Int)≤8:=by omega
 simp -implicitDefEqProofs (maxSteps:=1000000) (disch:=omega) only [push_cast,simprocAttr,↓gd]
 refine (TableFixed_ok _).to ?_
 simp -implicitDefEqProofs (maxSteps:=1000000) (disch:=omega) only [push_cast,simprocAttr,↓gd]
 refine ⟨by decide,?_⟩
 refine ((HeadWrite_ok [] 64 [⟨[107,105,110,100],[116,101,120,116],false⟩] (by simp [FdsB]) (by simp [FdsB,FdB]) _).as (by rfl)).to ?_
 rw [head_x]
 simp -implicitDefEqProofs (maxSteps:=1000000) (disch:=omega) only [push_cast,simprocAttr,↓gd]
 refine ((FrameWrite_ok ⟨1,false,1,headX⟩ _).as (by rfl)).to ?_
 rw [if_pos a4]
 simp -implicitDefEqProofs (maxSteps:=1000000) (disch:=omega) only [push_cast,simprocAttr,htm,↓gd]
 repeat refine And.intro (by omega) ?_
 refine ((FrameWrite_ok ⟨0,false,1,sAH.take k⟩ _).as (by simp [frV,frmC,sAH])).to ?_
 rw [if_pos f1]
 simp -implicitDefEqProofs (maxSteps:=1000000) (disch:=omega) only [push_cast,simprocAttr,↓gd]
 repeat refine And.intro (by omega) ?_
 refine ((FrameWrite_ok ⟨0,false,1,sAH.drop k⟩ _).as (by simp [frV,frmC,sAH])).to ?_
 rw [if_pos f2]
 simp -implicitDefEqProofs (maxSteps:=1000000) (disch:=omega) only [push_cast,simprocAttr,↓gd]
 refine ((FrameWrite_ok ⟨0,false,1,[105]⟩ _).as (by rfl)).to ?_
 rw [if_pos f3]
 have e1:frW ⟨1,false,1,headX⟩=frE:=rfl
 have e2:frW ⟨0,false,1,sAH.take k⟩=frO k:=rfl
 have e3:frW ⟨0,false,1,sAH.drop k⟩=frP k:=rfl
 rw [e1,e2,e3]
 have hYB:=endHearM_b (newEn true) (frE++frO k++frP k)
 have hN:=fun (Z:List Blk) (b c:Nat) (q:EnAt Z b c (newEn true))=>EndHear_ok (newEn_b true) (frE++frO k++frP k) (by omega) q
 have e4:endHearM (newEn true) (frE++frO k++frP k)=winE k:=rfl
 rw [e4] at hYB hN
 have hE2:=fun (Z:List Blk) (b c:Nat) (q:EnAt Z b c (winE k))=>EndHear_ok hYB (frW ⟨0,false,1,[105]⟩) (by simp [frW]) q
 have hOk:=fun (Z:List Blk) (b c:Nat) (q:EnAt Z b c (winE k))=>EndOk_ok hYB q
 rw [w5] at hOk
 generalize endHearM (winE k) (frW ⟨0,false,1,[105]⟩)=z at *
 generalize winE k=y at *
 have c8:=strsC_get (l:=y.strs) (i:=0) (by omega) (c:=8) (by decide)
 have hsly:=strsC_len y.strs
 generalize y.strs.getD 0 st0=s at *
 simp -implicitDefEqProofs (maxSteps:=1000000) (disch:=omega) only [push_cast,simprocAttr,↓gd]
 refine (EndNew_ok true _).mono ?_
 rintro r S5 ⟨b5,c5,rfl,q5⟩
 simp -implicitDefEqProofs (maxSteps:=1000000) (disch:=omega) only [push_cast,simprocAttr,↓gd]
 repeat refine And.intro (by have:=w6; simp only [List.length_append] at this ⊢; omega) ?_
 refine ((hN _ b5 c5 q5.at_).as (by simp [eV,enV,enC,newEn,List.append_assoc])).mono ?_
 rintro r S6 ⟨b6,c6,rfl,q6⟩
 have hy6:=q6.at_.app [Blk.cells 0 (enC (.heap b6 y.strs.length) (.heap c6 y.wait.length) y)]
 have k6:(S6++[Blk.cells 0 (enC (.heap b6 y.strs.length) (.heap c6 y.wait.length) y)])[S6.length]?=some (.cells 0 (enC (.heap b6 y.strs.length) (.heap c6 y.wait.length) y)):=by rw [app_get0]; rfl
 have hb6:=hy6.1
 have lb6:=lt_of_some q6.at_.1
 have hb60:=q6.at_.1
 have w3:s.text=[97,98,99,100,101,102,103,104]:=w3
 simp -implicitDefEqProofs (maxSteps:=1000000) (disch:=omega) only [push_cast,simprocAttr,w1,w2,hb60,c8,strC_eq,w3,↓gd]
 repeat refine And.intro (by omega) ?_
 refine ((hE2 _ b6 c6 (q6.at_.app _)).as (by simp [eV,enV,enC,w1,w2])).mono ?_
 rintro r S7 ⟨b7,c7,rfl,q7⟩
 have k7:=q7.upd.get (j:=S6.length) (B:=Blk.cells 0 [V.bool y.ans,V.rows none (y.out.map fV),V.int .i64 y.outM,V.rows none (y.inn.map fV),V.int .i64 y.innM,V.str y.came,V.heap b6 1,V.int .i64 y.send,V.int .i64 y.room,V.heap c6 y.wait.length,V.bool false]) (by simp -implicitDefEqProofs (maxSteps:=1000000) (disch:=omega) only [push_cast,simprocAttr,↓gd]) (by simp)
 have l7:=lt_of_some k7
 have hy7:=(q6.at_.app _).upd q7.upd (by simp) (by simp)
 simp -implicitDefEqProofs (maxSteps:=1000000) (disch:=omega) only [push_cast,simprocAttr,k7,w4,↓gd]
 refine ((hOk _ b6 c6 hy7).as (by simp [eV,enV,enC,w1,w2])).to ?_
 simp -implicitDefEqProofs (maxSteps:=1000000) (disch:=omega) only [push_cast,simprocAttr,↓gd]
 exact ⟨_,_,Wk.refl _ _ _,rfl⟩
end
end Go.Proofs.YtaamlddnpamomaaGreatDoor
