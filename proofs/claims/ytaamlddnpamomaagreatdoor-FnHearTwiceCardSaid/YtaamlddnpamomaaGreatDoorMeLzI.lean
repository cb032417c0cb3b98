/- A part of the proof: contracts of functions, or plain facts on which these lean. -/
import Derived.Test.YtaamlddnpamomaaGreatDoorMe16
import Derived.Test.YtaamlddnpamomaaGreatDoorMe35
import Derived.Test.YtaamlddnpamomaaGreatDoorMe40
namespace Go.Proofs.YtaamlddnpamomaaGreatDoor
open Go
set_option linter.unusedVariables false
set_option linter.unusedSimpArgs false
set_option maxRecDepth 100000
set_option maxHeartbeats 16000000

section
open Go
theorem head_x:hwBytes [] 64 [⟨[107,105,110,100],[116,101,120,116],false⟩]=headX:=by decide +kernel
theorem fr_ok:frameOk ⟨1,false,3,headX⟩=true∧frameOk ⟨1,true,3,headX⟩=true∧frameOk ⟨0,false,3,[97]⟩=true∧frameOk ⟨1,false,1,headX⟩=true:=by decide +kernel
theorem fr_len:(frA++frA).length≤300∧(frL++frT).length≤300∧(frA++frE).length≤300∧(frA++frT).length≤300∧frA.length≤300∧frT.length≤300:=by decide +kernel
theorem hearB (a v:Bool) (bs:List UInt8) (h:(endHearM (newEn a) bs).bad=v) (hl:bs.length≤300) {Z:List Blk} {b c:Nat} (q:EnAt Z b c (newEn a)) :
  VCall Tryz.prog 12 [eV b c (newEn a),.str bs] Z fun r S'=>∃x b' c',x.bad=v∧r=eV b' c' x∧Upd [] Z S' :=
 (EndHear_ok (newEn_b a) bs (by omega) q).mono fun r S' ⟨b',c',hr,hn⟩=>⟨_,b',c',h,hr,hn.upd⟩
theorem FnHearTwice_ok (code:List UInt8) (S:List Blk):VCall Tryz.prog 6 [.rows none (code.map u8V)] S fun r S'=>r=.bool true:=by
 refine VCall.ex hDe (fun _=>false) (fun id=>if id=5 then [4,3,3,4,6,6] else []) Tryz.func6 Tryz.ntmps6 Tryz.results6 ?_
 by_cases hc:(code.length:Int) > 1048576
 ·simp -implicitDefEqProofs (maxSteps:=1000000) (disch:=omega) only [push_cast,simprocAttr,hc,↓gd]
  exact ⟨_,_,Wk.refl _ _ _,rfl⟩
 simp -implicitDefEqProofs (maxSteps:=1000000) (disch:=omega) only [push_cast,simprocAttr,hc,↓gd]
 refine (DrawEndHear_ok code (by omega) _).mono ?_
 rintro r S1 ⟨e,bs,b,c,⟨wire,hw⟩,hbs,rfl,q1⟩
 have hB:=hw.b.1
 simp -implicitDefEqProofs (maxSteps:=1000000) (disch:=omega) only [push_cast,simprocAttr,↓gd]
 have hEH:=fun (Z:List Blk) (q:EnAt Z b c e)=>EndHear_ok hB bs (by omega) q
 have hspec:=fun (Z:List Blk) (q:EnAt Z b c e)=>sEndHear_ok hB bs (by omega) q
 have hXB:=endHearM_b e bs
 generalize hx:endHearM e bs=x at *
 refine ((hEH _ (q1.at_.app _)).as (by simp [eV,enV,enC])).mono ?_
 rintro r S2 ⟨b2,c2,rfl,q2⟩
 have k5:S2[S1.length]?=some (.cells 0 (enC (.heap b e.strs.length) (.heap c e.wait.length) e)):=q2.upd.get (by simp -implicitDefEqProofs (maxSteps:=1000000) (disch:=omega) only [push_cast,simprocAttr,↓gd]) (by simp)
 have hat2:=(q1.at_.app [(.cells 0 (enC (.heap b e.strs.length) (.heap c e.wait.length) e))]).upd q2.upd (by simp) (by simp)
 have l5:=lt_of_some k5
 have hX:=q2.at_
 simp -implicitDefEqProofs (maxSteps:=1000000) (disch:=omega) only [push_cast,simprocAttr,k5,↓gd]
 refine ((hspec _ (hat2.app _)).as (by simp [eV,enV,enC])).mono ?_
 rintro r S3 ⟨b3,c3,rfl,q3⟩
 have k5':=q3.upd.get (j:=S1.length) (B:=(.cells 0 (enC (.heap b e.strs.length) (.heap c e.wait.length) e))) (by simp -implicitDefEqProofs (maxSteps:=1000000) (disch:=omega) only [push_cast,simprocAttr,k5,↓gd]) (by simp)
 have k7':=q3.upd.get (j:=S2.length) (B:=(.cells 0 (enC (.heap b2 x.strs.length) (.heap c2 x.wait.length) x))) (by simp -implicitDefEqProofs (maxSteps:=1000000) (disch:=omega) only [push_cast,simprocAttr,↓gd]) (by simp)
 have hat3:=(hat2.app [(.cells 0 (enC (.heap b2 x.strs.length) (.heap c2 x.wait.length) x))]).upd q3.upd (by simp) (by simp)
 have hX3:=(hX.app [(.cells 0 (enC (.heap b2 x.strs.length) (.heap c2 x.wait.length) x))]).upd q3.upd (by simp) (by simp)
 simp -implicitDefEqProofs (maxSteps:=1000000) (disch:=omega) only [push_cast,simprocAttr,k5,k5',k7',↓gd]
 refine ((lkEnd_self hXB hX3 q3.at_).as (by simp [eV,enV,enC])).to ?_
 clear hspec hEH
 obtain ⟨f1,f2,f3,f4,f5,f6,f7⟩:=twice
 obtain ⟨a1,a2,a3,a4⟩:=fr_ok
 obtain ⟨n1,n2,n3,n4,n5,n6⟩:=fr_len
 simp -implicitDefEqProofs (maxSteps:=1000000) (disch:=omega) only [push_cast,simprocAttr,↓gd]
 refine (TableFixed_ok _).to ?_
 simp -implicitDefEqProofs (maxSteps:=1000000) (disch:=omega) only [push_cast,simprocAttr,↓gd]
 refine ⟨by decide,?_⟩
 refine ((HeadWrite_ok [] 64 [⟨[107,105,110,100],[116,101,120,116],false⟩] (by simp [FdsB]) (by simp [FdsB,FdB]) _).as (by rfl)).to ?_
 rw [head_x]
 simp -implicitDefEqProofs (maxSteps:=1000000) (disch:=omega) only [push_cast,simprocAttr,↓gd]
 refine ((FrameWrite_ok ⟨1,false,3,headX⟩ _).as (by rfl)).to ?_
 rw [if_pos a1]
 simp -implicitDefEqProofs (maxSteps:=1000000) (disch:=omega) only [push_cast,simprocAttr,↓gd]
 refine ((FrameWrite_ok ⟨1,true,3,headX⟩ _).as (by rfl)).to ?_
 rw [if_pos a2]
 simp -implicitDefEqProofs (maxSteps:=1000000) (disch:=omega) only [push_cast,simprocAttr,↓gd]
 refine ((FrameWrite_ok ⟨0,false,3,[97]⟩ _).as (by rfl)).to ?_
 rw [if_pos a3]
 simp -implicitDefEqProofs (maxSteps:=1000000) (disch:=omega) only [push_cast,simprocAttr,↓gd]
 refine ((FrameWrite_ok ⟨1,false,1,headX⟩ _).as (by rfl)).to ?_
 rw [if_pos a4]
 simp -implicitDefEqProofs (maxSteps:=1000000) (disch:=omega) only [push_cast,simprocAttr,↓gd]
 refine (EndNew_ok true _).mono ?_
 rintro r S5 ⟨b5,c5,rfl,q5⟩
 have eA:frW ⟨1,false,3,headX⟩=frA:=rfl
 have eL:frW ⟨1,true,3,headX⟩=frL:=rfl
 have eT:frW ⟨0,false,3,[97]⟩=frT:=rfl
 have eE:frW ⟨1,false,1,headX⟩=frE:=rfl
 rw [eA,eL,eT,eE]
 have k5n:(S5++[Blk.cells 0 (enC (.heap b5 0) (.heap c5 0) (newEn true))])[S5.length]?=some (.cells 0 (enC (.heap b5 0) (.heap c5 0) (newEn true))):=by rw [app_get0]; rfl
 have hat5:=q5.at_.app [Blk.cells 0 (enC (.heap b5 0) (.heap c5 0) (newEn true))]
 simp -implicitDefEqProofs (maxSteps:=1000000) (disch:=omega) only [push_cast,simprocAttr,↓gd]
 refine ((hearB true false frA f1 n5 hat5).as (by rfl)).mono ?_
 rintro r S6 ⟨x6,b6,c6,hb6,rfl,q6⟩
 have k6n:=q6.get k5n (by simp)
 have l6n:=lt_of_some k6n
 have hat6:=hat5.upd q6 (by simp) (by simp)
 simp -implicitDefEqProofs (maxSteps:=1000000) (disch:=omega) only [push_cast,simprocAttr,k6n,hb6,↓gd]
 refine ⟨by have:=n1; simp only [List.length_append] at this; omega,?_⟩
 refine ((hearB true true (frA++frA) f2 n1 hat6).as (by rfl)).mono ?_
 rintro r S7 ⟨x7,b7,c7,hb7,rfl,q7⟩
 have k7n:=q7.get k6n (by simp)
 have l7n:=lt_of_some k7n
 have hat7:=hat6.upd q7 (by simp) (by simp)
 simp -implicitDefEqProofs (maxSteps:=1000000) (disch:=omega) only [push_cast,simprocAttr,k7n,hb7,↓gd]
 refine ((hearB true true frT f3 n6 hat7).as (by rfl)).mono ?_
 rintro r S8 ⟨x8,b8,c8,hb8,rfl,q8⟩
 have k8n:=q8.get k7n (by simp)
 have l8n:=lt_of_some k8n
 have hat8:=hat7.upd q8 (by simp) (by simp)
 simp -implicitDefEqProofs (maxSteps:=1000000) (disch:=omega) only [push_cast,simprocAttr,k8n,hb8,↓gd]
 refine ⟨by have:=n2; simp only [List.length_append] at this; omega,?_⟩
 refine ((hearB true true (frL++frT) f4 n2 hat8).as (by rfl)).mono ?_
 rintro r S9 ⟨x9,b9,c9,hb9,rfl,q9⟩
 have k9n:=q9.get k8n (by simp)
 have l9n:=lt_of_some k9n
 have hat9:=hat8.upd q9 (by simp) (by simp)
 simp -implicitDefEqProofs (maxSteps:=1000000) (disch:=omega) only [push_cast,simprocAttr,k9n,hb9,↓gd]
 refine ⟨by have:=n3; simp only [List.length_append] at this; omega,?_⟩
 refine ((hearB true true (frA++frE) f5 n3 hat9).as (by rfl)).mono ?_
 rintro r S10 ⟨x10,b10,c10,hb10,rfl,q10⟩
 have k10n:=q10.get k9n (by simp)
 have l10n:=lt_of_some k10n
 have hat10:=hat9.upd q10 (by simp) (by simp)
 simp -implicitDefEqProofs (maxSteps:=1000000) (disch:=omega) only [push_cast,simprocAttr,k10n,hb10,↓gd]
 refine ⟨by have:=n4; simp only [List.length_append] at this; omega,?_⟩
 refine ((hearB true false (frA++frT) f6 n4 hat10).as (by rfl)).mono ?_
 rintro r S11 ⟨x11,b11,c11,hb11,rfl,q11⟩
 have k11n:=q11.get k10n (by simp)
 have l11n:=lt_of_some k11n
 have hat11:=hat10.upd q11 (by simp) (by simp)
 simp -implicitDefEqProofs (maxSteps:=1000000) (disch:=omega) only [push_cast,simprocAttr,k11n,hb11,↓gd]
 refine (EndNew_ok false _).mono ?_
 rintro r S12 ⟨b12,c12,rfl,q12⟩
 simp -implicitDefEqProofs (maxSteps:=1000000) (disch:=omega) only [push_cast,simprocAttr,↓gd]
 refine ((hearB false true frA f7 n5 q12.at_).as (by rfl)).mono ?_
 rintro r S13 ⟨x13,b13,c13,hb13,rfl,q13⟩
 simp -implicitDefEqProofs (maxSteps:=1000000) (disch:=omega) only [push_cast,simprocAttr,hb13,↓gd]
 exact ⟨_,_,Wk.refl _ _ _,rfl⟩
end
end Go.Proofs.YtaamlddnpamomaaGreatDoor
