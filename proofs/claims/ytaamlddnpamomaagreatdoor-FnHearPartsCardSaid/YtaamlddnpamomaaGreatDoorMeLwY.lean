/- A part of the proof: contracts of functions, or plain facts on which these lean. -/
import Derived.Test.YtaamlddnpamomaaGreatDoorMe35
import Derived.Test.YtaamlddnpamomaaGreatDoorMe40
namespace Go.Proofs.YtaamlddnpamomaaGreatDoor
open Go
set_option linter.unusedVariables false
set_option linter.unusedSimpArgs false
set_option maxRecDepth 100000
set_option maxHeartbeats 16000000

section
open Go
theorem hear_parts_any {e:En} (h:EnL e) {b:List UInt8} {k:Nat} (h300:e.came.length+b.length≤300) (hw:e.wait.length≤4) (h150:b.length≤150) :
  ((endHearM e b).bad=true→(endHearM (endHearM e (b.take k)) (b.drop k)).bad=true)∧((endHearM e b).bad=false→endHearM (endHearM e (b.take k)) (b.drop k)=endHearM e b):=by
 cases hb:e.bad with
 | false=>exact hear_parts h hb h300 hw h150
 | true =>
  have e1:∀q:List UInt8,q.length≤300→endHearM e q=e:=fun q hq=>by
   rw [endHearM,if_neg (by rw [h.ok]; rintro (z | z); cases z; omega),hearWM,if_pos (.inl hb)]
  rw [e1 b (by omega),e1 _ (by rw [List.length_take]; omega),e1 _ (by rw [List.length_drop]; omega)]
  exact ⟨id,fun _=>rfl⟩
theorem FnHearParts_ok (code more:List UInt8) (S:List Blk):VCall Tryz.prog 3 [.rows none (code.map u8V),.rows none (more.map u8V)] S fun r S'=>r=.bool true:=by
 refine VCall.ex hDe (fun _=>false) (fun id=>if id=5 then [4,3,3,4,8,8,8,8,31,31,31,31,31,31,31,31,31,31,31,31,31,31,31,31,31,31,31,31,31,31,31] else if id=6 then [4,3,3,4,6,6] else if id=8 then [10,10,10,10,1000000,10,10,10,1000000,1000000,11,9] else []) Tryz.func3 Tryz.ntmps3 Tryz.results3 ?_
 by_cases hc:(code.length:Int) > 1048576
 ·simp -implicitDefEqProofs (maxSteps:=1000000) (disch:=omega) only [push_cast,simprocAttr,hc,↓gd]
  exact ⟨_,_,Wk.refl _ _ _,rfl⟩
 by_cases hc2:(more.length:Int) > 1048576
 ·simp -implicitDefEqProofs (maxSteps:=1000000) (disch:=omega) only [push_cast,simprocAttr,hc,hc2,↓gd]
  exact ⟨_,_,Wk.refl _ _ _,rfl⟩
 simp -implicitDefEqProofs (maxSteps:=1000000) (disch:=omega) only [push_cast,simprocAttr,hc,hc2,↓gd]
 refine (DrawEndHear_ok code (by omega) _).mono ?_
 rintro r S1 ⟨e,bs,b,c,⟨wire,hw⟩,hbs,rfl,q1⟩
 have hB:=hw.b.1
 simp -implicitDefEqProofs (maxSteps:=1000000) (disch:=omega) only [push_cast,simprocAttr,↓gd]
 have hEH:=fun (Z:List Blk) (q:EnAt Z b c e)=>EndHear_ok hB bs (by omega) q
 have hspec:=fun (Z:List Blk) (q:EnAt Z b c e)=>sEndHear_ok hB bs (by omega) q
 have hXB:=endHearM_b e bs
 generalize hx:endHearM e bs=x at *
 refine ((hEH _ (q1.at_.app _)).as (by simp [eV,enV,enC])).mono ?_
 rintro r S2 ⟨b2,c2,rfl,q2⟩
 have k5:S2[S1.length]?=some (.cells 0 (enC (.heap b e.strs.length) (.heap c e.wait.length) e)):=q2.upd.get (by simp -implicitDefEqProofs (maxSteps:=1000000) (disch:=omega) only [push_cast,simprocAttr,↓gd]) (by simp)
 have hat2:=(q1.at_.app [(.cells 0 (enC (.heap b e.strs.length) (.heap c e.wait.length) e))]).upd q2.upd (by simp) (by simp)
 have l5:=lt_of_some k5
 have hX:=q2.at_
 simp -implicitDefEqProofs (maxSteps:=1000000) (disch:=omega) only [push_cast,simprocAttr,k5,↓gd]
 refine ((hspec _ (hat2.app _)).as (by simp [eV,enV,enC])).mono ?_
 rintro r S3 ⟨b3,c3,rfl,q3⟩
 have k5':=q3.upd.get (j:=S1.length) (B:=(.cells 0 (enC (.heap b e.strs.length) (.heap c e.wait.length) e))) (by simp -implicitDefEqProofs (maxSteps:=1000000) (disch:=omega) only [push_cast,simprocAttr,k5,↓gd]) (by simp)
 have k7':=q3.upd.get (j:=S2.length) (B:=(.cells 0 (enC (.heap b2 x.strs.length) (.heap c2 x.wait.length) x))) (by simp -implicitDefEqProofs (maxSteps:=1000000) (disch:=omega) only [push_cast,simprocAttr,↓gd]) (by simp)
 have hat3:=(hat2.app [(.cells 0 (enC (.heap b2 x.strs.length) (.heap c2 x.wait.length) x))]).upd q3.upd (by simp) (by simp)
 have hX3:=(hX.app [(.cells 0 (enC (.heap b2 x.strs.length) (.heap c2 x.wait.length) x))]).upd q3.upd (by simp) (by simp)
 simp -implicitDefEqProofs (maxSteps:=1000000) (disch:=omega) only [push_cast,simprocAttr,k5,k5',k7',↓gd]
 refine ((lkEnd_self hXB hX3 q3.at_).as (by simp [eV,enV,enC])).to ?_
 simp -implicitDefEqProofs (maxSteps:=1000000) (disch:=omega) only [push_cast,simprocAttr,k5',k7',↓gd]
 refine ((sEndOk_at hB hat3).as (by simp [eV,enV,enC])).to ?_
 cases hE:endOk e
 ·simp -implicitDefEqProofs (maxSteps:=1000000) (disch:=omega) only [push_cast,simprocAttr,k5',k7',↓gd]
  refine ((hspec _ hat3).as (by simp [eV,enV,enC])).mono ?_
  rintro r S4 ⟨b4,c4,rfl,q4⟩
  have k7'':=q4.upd.get k7' (by simp)
  simp -implicitDefEqProofs (maxSteps:=1000000) (disch:=omega) only [push_cast,simprocAttr,k5',k7',k7'',↓gd]
  refine ((lkEnd_self hXB (hX3.upd q4.upd (by simp) (by simp)) q4.at_).as (by simp [eV,enV,enC])).to ?_
  simp -implicitDefEqProofs (maxSteps:=1000000) (disch:=omega) only [push_cast,simprocAttr,↓gd]
  exact ⟨_,_,Wk.refl _ _ _,rfl⟩
 have hL:=hw.l hE
 have hwl:=hB.wait
 have hcl:=hB.came
 by_cases h3:(e.came.length:Int)+bs.length > 300
 ·simp -implicitDefEqProofs (maxSteps:=1000000) (disch:=omega) only [push_cast,simprocAttr,k5',k7',h3,↓gd]
  refine ((hspec _ hat3).as (by simp [eV,enV,enC,h3])).mono ?_
  rintro r S4 ⟨b4,c4,rfl,q4⟩
  have k7'':=q4.upd.get k7' (by simp)
  simp -implicitDefEqProofs (maxSteps:=1000000) (disch:=omega) only [push_cast,simprocAttr,k5',k7',k7'',h3,↓gd]
  refine ((lkEnd_self hXB (hX3.upd q4.upd (by simp) (by simp)) q4.at_).as (by simp [eV,enV,enC,h3])).to ?_
  simp -implicitDefEqProofs (maxSteps:=1000000) (disch:=omega) only [push_cast,simprocAttr,↓gd]
  exact ⟨_,_,Wk.refl _ _ _,rfl⟩
 by_cases h4:(e.wait.length:Int) > 4
 ·simp -implicitDefEqProofs (maxSteps:=1000000) (disch:=omega) only [push_cast,simprocAttr,k5',k7',h3,h4,↓gd]
  refine ((hspec _ hat3).as (by simp [eV,enV,enC,h3,h4])).mono ?_
  rintro r S4 ⟨b4,c4,rfl,q4⟩
  have k7'':=q4.upd.get k7' (by simp)
  simp -implicitDefEqProofs (maxSteps:=1000000) (disch:=omega) only [push_cast,simprocAttr,k5',k7',k7'',h3,h4,↓gd]
  refine ((lkEnd_self hXB (hX3.upd q4.upd (by simp) (by simp)) q4.at_).as (by simp [eV,enV,enC,h3,h4])).to ?_
  simp -implicitDefEqProofs (maxSteps:=1000000) (disch:=omega) only [push_cast,simprocAttr,↓gd]
  exact ⟨_,_,Wk.refl _ _ _,rfl⟩
 by_cases h5:(bs.length:Int) > 150
 ·simp -implicitDefEqProofs (maxSteps:=1000000) (disch:=omega) only [push_cast,simprocAttr,k5',k7',h3,h4,h5,↓gd]
  refine ((hspec _ hat3).as (by simp [eV,enV,enC,h3,h4,h5])).mono ?_
  rintro r S4 ⟨b4,c4,rfl,q4⟩
  have k7'':=q4.upd.get k7' (by simp)
  simp -implicitDefEqProofs (maxSteps:=1000000) (disch:=omega) only [push_cast,simprocAttr,k5',k7',k7'',h3,h4,h5,↓gd]
  refine ((lkEnd_self hXB (hX3.upd q4.upd (by simp) (by simp)) q4.at_).as (by simp [eV,enV,enC,h3,h4,h5])).to ?_
  simp -implicitDefEqProofs (maxSteps:=1000000) (disch:=omega) only [push_cast,simprocAttr,↓gd]
  exact ⟨_,_,Wk.refl _ _ _,rfl⟩
 clear hspec hEH
 have htm:Int.tmod (more.length:Int) ((bs.length:Int)+1)=((more.length % (bs.length+1):Nat):Int):=tmod_nat more.length (bs.length+1)
 have hk:more.length % (bs.length+1)≤bs.length:=by have:=Nat.mod_lt more.length (show bs.length+1 > 0 by omega); omega
 generalize more.length % (bs.length+1)=k at hk htm
 obtain ⟨p1,p2⟩:=hear_parts_any (k:=k) hL (b:=bs) (by omega) (by omega) (by omega)
 rw [hx] at p1 p2
 have hYB:=endHearM_b e (bs.take k)
 have hZB:=endHearM_b (endHearM e (bs.take k)) (bs.drop k)
 have hE1:=fun (Z:List Blk) (q:EnAt Z b c e)=>EndHear_ok hB (bs.take k) (by rw [List.length_take]; omega) q
 have hE2:=fun (Z:List Blk) (b c:Nat) (q:EnAt Z b c (endHearM e (bs.take k)))=>EndHear_ok hYB (bs.drop k) (by rw [List.length_drop]; omega) q
 generalize endHearM (endHearM e (bs.take k)) (bs.drop k)=z at *
 generalize endHearM e (bs.take k)=y at *
 simp -implicitDefEqProofs (maxSteps:=1000000) (disch:=omega) only [push_cast,simprocAttr,k5',k7',h3,h4,h5,htm,↓gd]
 repeat refine And.intro (by omega) ?_
 refine ((hE1 _ hat3).as (by simp [eV,enV,enC])).mono ?_
 rintro r S4 ⟨b4,c4,rfl,q4⟩
 simp -implicitDefEqProofs (maxSteps:=1000000) (disch:=omega) only [push_cast,simprocAttr,↓gd]
 refine ⟨by rw [q4.upd.get k5' (by simp),k5'],?_⟩
 repeat refine And.intro (by omega) ?_
 refine ((hE2 _ b4 c4 q4.at_).as (by simp [eV,enV,enC])).mono ?_
 rintro r S5 ⟨b5,c5,rfl,q5⟩
 have m7:=q5.upd.get (q4.upd.get k7' (by simp)) (by simp)
 have m54:=q4.upd.get k5' (by simp)
 have m55:=q5.upd.get m54 (by simp)
 have hX5:=(hX3.upd q4.upd (by simp) (by simp)).upd q5.upd (by simp) (by simp)
 have l7:=lt_of_some m7
 cases hxb:x.bad
 ·have hzx:=p2 hxb
  subst hzx
  simp -implicitDefEqProofs (maxSteps:=1000000) (disch:=omega) only [push_cast,simprocAttr,m7,m54,m55,k5',hxb,↓gd]
  refine ⟨rfl,?_⟩
  refine ((lkEnd_self hXB (q5.at_.app _) (hX5.app _)).as (by simp [eV,enV,enC,hxb])).to ?_
  simp -implicitDefEqProofs (maxSteps:=1000000) (disch:=omega) only [push_cast,simprocAttr,↓gd]
  exact ⟨_,_,Wk.refl _ _ _,rfl⟩
 ·have hzb:=p1 hxb
  simp -implicitDefEqProofs (maxSteps:=1000000) (disch:=omega) only [push_cast,simprocAttr,m7,m54,m55,k5',hxb,hzb,↓gd]
  refine ⟨rfl,?_⟩
  exact ⟨_,_,Wk.refl _ _ _,rfl⟩
end
end Go.Proofs.YtaamlddnpamomaaGreatDoor
