/- A part of the proof: contracts of functions, or plain facts on which these lean. -/
import Derived.Test.YtdplmibomopkcaaGreatDoorPa40
import Derived.Test.YtdplmibomopkcaaGreatDoorPa41
namespace Go.Proofs.YtdplmibomopkcaaGreatDoor
open Go
set_option linter.unusedVariables false
set_option linter.unusedSimpArgs false
set_option maxRecDepth 100000
set_option maxHeartbeats 16000000

section
open Go
theorem hear_nil {x:En} (h:EnL x):endHearM x []=x:=by
 rw [endHearM,if_neg (by rw [h.ok]; simp)]
 exact hearWM_idle h.inc
theorem fresh_two:(endHearM (newEn false) [5,0]).came=[5,0]∧(endHearM (newEn false) [5,0]).bad=false∧(endHearM (newEn false) [5,0]).strs=[]:=by decide +kernel
theorem FnHearNone_ok (code:List UInt8) (S:List Blk):VCall Tryz.prog 4 [.rows none (code.map u8V)] S fun r S'=>r=.bool true:=by
 refine VCall.ex hDe (fun _=>false) (fun id=>if id=5 then [4,3,3,4,8,8,8,8,11,11,11] else if id=6 then [4,3,3,4,6,6] else if id=7 then [25,25,25,25,25,25,25,25,25,25,25,25,25,25,25,25,25,25,25,25,25,25,25,25,25,27,27,30,30,30] else []) Tryz.func4 Tryz.ntmps4 Tryz.results4 ?_
 by_cases hc:(code.length:Int) > 1048576
 ·simp -implicitDefEqProofs (maxSteps:=1000000) (disch:=omega) only [push_cast,simprocAttr,hc,↓gd]
  exact ⟨_,_,Wk.refl _ _ _,rfl⟩
 simp -implicitDefEqProofs (maxSteps:=1000000) (disch:=omega) only [push_cast,simprocAttr,hc,↓gd]
 refine (DrawEndHear_ok code (by omega) _).mono ?_
 rintro r S1 ⟨e,bs,b,c,⟨wire,hw⟩,hbs,rfl,q1⟩
 have hB:=hw.b.1
 simp -implicitDefEqProofs (maxSteps:=1000000) (disch:=omega) only [push_cast,simprocAttr,↓gd]
 have hEH:=fun (Z:List Blk) (q:EnAt Z b c e)=>EndHear_ok hB bs (by omega) q
 have hspec:=fun (Z:List Blk) (q:EnAt Z b c e)=>sEndHear_ok hB bs (by omega) q
 have hXB:=endHearM_b e bs
 generalize hx:endHearM e bs=x at *
 refine ((hEH _ (q1.at_.app _)).as (by simp [eV,enV,enC])).mono ?_
 rintro r S2 ⟨b2,c2,rfl,q2⟩
 have k5:S2[S1.length]?=some (.cells 0 (enC (.heap b e.strs.length) (.heap c e.wait.length) e)):=q2.upd.get (by simp -implicitDefEqProofs (maxSteps:=1000000) (disch:=omega) only [push_cast,simprocAttr,↓gd]) (by simp)
 have hat2:=(q1.at_.app [(.cells 0 (enC (.heap b e.strs.length) (.heap c e.wait.length) e))]).upd q2.upd (by simp) (by simp)
 have l5:=lt_of_some k5
 have hX:=q2.at_
 simp -implicitDefEqProofs (maxSteps:=1000000) (disch:=omega) only [push_cast,simprocAttr,k5,↓gd]
 refine ((hspec _ (hat2.app _)).as (by simp [eV,enV,enC])).mono ?_
 rintro r S3 ⟨b3,c3,rfl,q3⟩
 have k5':=q3.upd.get (j:=S1.length) (B:=(.cells 0 (enC (.heap b e.strs.length) (.heap c e.wait.length) e))) (by simp -implicitDefEqProofs (maxSteps:=1000000) (disch:=omega) only [push_cast,simprocAttr,k5,↓gd]) (by simp)
 have k7':=q3.upd.get (j:=S2.length) (B:=(.cells 0 (enC (.heap b2 x.strs.length) (.heap c2 x.wait.length) x))) (by simp -implicitDefEqProofs (maxSteps:=1000000) (disch:=omega) only [push_cast,simprocAttr,↓gd]) (by simp)
 have hat3:=(hat2.app [(.cells 0 (enC (.heap b2 x.strs.length) (.heap c2 x.wait.length) x))]).upd q3.upd (by simp) (by simp)
 have hX3:=(hX.app [(.cells 0 (enC (.heap b2 x.strs.length) (.heap c2 x.wait.length) x))]).upd q3.upd (by simp) (by simp)
 simp -implicitDefEqProofs (maxSteps:=1000000) (disch:=omega) only [push_cast,simprocAttr,k5,k5',k7',↓gd]
 refine ((lkEnd_self hXB hX3 q3.at_).as (by simp [eV,enV,enC])).to ?_
 simp -implicitDefEqProofs (maxSteps:=1000000) (disch:=omega) only [push_cast,simprocAttr,k5',k7',↓gd]
 refine ((sEndOk_at hB hat3).as (by simp [eV,enV,enC])).to ?_
 cases hE:endOk e
 ·simp -implicitDefEqProofs (maxSteps:=1000000) (disch:=omega) only [push_cast,simprocAttr,k5',k7',↓gd]
  refine ((hspec _ hat3).as (by simp [eV,enV,enC])).mono ?_
  rintro r S4 ⟨b4,c4,rfl,q4⟩
  have k7'':=q4.upd.get k7' (by simp)
  simp -implicitDefEqProofs (maxSteps:=1000000) (disch:=omega) only [push_cast,simprocAttr,k5',k7',k7'',↓gd]
  refine ((lkEnd_self hXB (hX3.upd q4.upd (by simp) (by simp)) q4.at_).as (by simp [eV,enV,enC])).to ?_
  simp -implicitDefEqProofs (maxSteps:=1000000) (disch:=omega) only [push_cast,simprocAttr,↓gd]
  exact ⟨_,_,Wk.refl _ _ _,rfl⟩
 clear hspec hEH
 have hL:EnL x:=by
  rw [←hx,endHearM,if_neg (by rw [hE]; simp; omega)]
  exact (hw.l hE).hear bs
 have hwl:=hB.wait
 have hcl:=hB.came
 obtain ⟨f1,f2,f3⟩:=fresh_two
 have hYB:=endHearM_b (newEn false) [5,0]
 have hEN:=fun (Z:List Blk) (b c:Nat) (q:EnAt Z b c (newEn false))=>EndHear_ok (newEn_b false) [5,0] (by simp) q
 generalize endHearM (newEn false) [5,0]=y at *
 have hnil:=hear_nil hL
 have hEX:=fun (Z:List Blk) (q:EnAt Z b2 c2 x)=>EndHear_ok hXB [] (by simp) q
 rw [hnil] at hEX
 clear hx hnil
 by_cases hcond:x.bad=false∧(bs.length:Int)≤150∧(e.came.length:Int)+bs.length≤300∧(e.wait.length:Int)≤4
 ·obtain ⟨h1,h2,h3,h4⟩:=hcond
  simp -implicitDefEqProofs (maxSteps:=1000000) (disch:=omega) only [push_cast,simprocAttr,k5',k7',h1,h2,h3,h4,↓gd]
  refine ((hEX _ hX3).as (by simp [eV,enV,enC,h1])).mono ?_
  rintro r S4 ⟨b4,c4,rfl,q4⟩
  have m7:=q4.upd.get k7' (by simp)
  simp -implicitDefEqProofs (maxSteps:=1000000) (disch:=omega) only [push_cast,simprocAttr,k5',k7',m7,h1,h2,h3,h4,↓gd]
  refine ((lkEnd_self hXB q4.at_ (hX3.upd q4.upd (by simp) (by simp))).as (by simp [eV,enV,enC,h1])).to ?_
  simp -implicitDefEqProofs (maxSteps:=1000000) (disch:=omega) only [push_cast,simprocAttr,↓gd]
  refine (EndNew_ok false _).mono ?_
  rintro r S5 ⟨b5,c5,rfl,q5⟩
  simp -implicitDefEqProofs (maxSteps:=1000000) (disch:=omega) only [push_cast,simprocAttr,↓gd]
  refine ((hEN _ b5 c5 (q5.at_.app _)).as (by simp [eV,enV,enC])).mono ?_
  rintro r S6 ⟨b6,c6,rfl,q6⟩
  simp -implicitDefEqProofs (maxSteps:=1000000) (disch:=omega) only [push_cast,simprocAttr,f1,f2,f3,↓gd]
  exact ⟨_,_,Wk.refl _ _ _,rfl⟩
 ·cases h1:x.bad
  ·by_cases h2:(bs.length:Int)≤150
   ·by_cases h3:(e.came.length:Int)+bs.length≤300
    ·have h4:¬(e.wait.length:Int)≤4:=fun h4=>hcond ⟨h1,h2,h3,h4⟩
     simp -implicitDefEqProofs (maxSteps:=1000000) (disch:=omega) only [push_cast,simprocAttr,k5',k7',h1,h2,h3,h4,↓gd]
     refine (EndNew_ok false _).mono ?_
     rintro r S5 ⟨b5,c5,rfl,q5⟩
     simp -implicitDefEqProofs (maxSteps:=1000000) (disch:=omega) only [push_cast,simprocAttr,↓gd]
     refine ((hEN _ b5 c5 (q5.at_.app _)).as (by simp [eV,enV,enC])).mono ?_
     rintro r S6 ⟨b6,c6,rfl,q6⟩
     simp -implicitDefEqProofs (maxSteps:=1000000) (disch:=omega) only [push_cast,simprocAttr,f1,f2,f3,↓gd]
     exact ⟨_,_,Wk.refl _ _ _,rfl⟩
    ·simp -implicitDefEqProofs (maxSteps:=1000000) (disch:=omega) only [push_cast,simprocAttr,k5',k7',h1,h2,h3,↓gd]
     refine (EndNew_ok false _).mono ?_
     rintro r S5 ⟨b5,c5,rfl,q5⟩
     simp -implicitDefEqProofs (maxSteps:=1000000) (disch:=omega) only [push_cast,simprocAttr,↓gd]
     refine ((hEN _ b5 c5 (q5.at_.app _)).as (by simp [eV,enV,enC])).mono ?_
     rintro r S6 ⟨b6,c6,rfl,q6⟩
     simp -implicitDefEqProofs (maxSteps:=1000000) (disch:=omega) only [push_cast,simprocAttr,f1,f2,f3,↓gd]
     exact ⟨_,_,Wk.refl _ _ _,rfl⟩
   ·simp -implicitDefEqProofs (maxSteps:=1000000) (disch:=omega) only [push_cast,simprocAttr,k5',k7',h1,h2,↓gd]
    refine (EndNew_ok false _).mono ?_
    rintro r S5 ⟨b5,c5,rfl,q5⟩
    simp -implicitDefEqProofs (maxSteps:=1000000) (disch:=omega) only [push_cast,simprocAttr,↓gd]
    refine ((hEN _ b5 c5 (q5.at_.app _)).as (by simp [eV,enV,enC])).mono ?_
    rintro r S6 ⟨b6,c6,rfl,q6⟩
    simp -implicitDefEqProofs (maxSteps:=1000000) (disch:=omega) only [push_cast,simprocAttr,f1,f2,f3,↓gd]
    exact ⟨_,_,Wk.refl _ _ _,rfl⟩
  ·simp -implicitDefEqProofs (maxSteps:=1000000) (disch:=omega) only [push_cast,simprocAttr,k5',k7',h1,↓gd]
   refine (EndNew_ok false _).mono ?_
   rintro r S5 ⟨b5,c5,rfl,q5⟩
   simp -implicitDefEqProofs (maxSteps:=1000000) (disch:=omega) only [push_cast,simprocAttr,↓gd]
   refine ((hEN _ b5 c5 (q5.at_.app _)).as (by simp [eV,enV,enC])).mono ?_
   rintro r S6 ⟨b6,c6,rfl,q6⟩
   simp -implicitDefEqProofs (maxSteps:=1000000) (disch:=omega) only [push_cast,simprocAttr,f1,f2,f3,↓gd]
   exact ⟨_,_,Wk.refl _ _ _,rfl⟩
end
end Go.Proofs.YtdplmibomopkcaaGreatDoor
