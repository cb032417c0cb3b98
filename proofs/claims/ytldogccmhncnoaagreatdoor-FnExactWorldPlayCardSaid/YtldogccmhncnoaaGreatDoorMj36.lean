/- A part of the proof: contracts of functions, or plain facts on which these lean. -/
import Derived.Test.YtldogccmhncnoaaGreatDoorMj26
import Derived.Test.YtldogccmhncnoaaGreatDoorMj34
import Derived.Test.YtldogccmhncnoaaGreatDoorMj35
namespace Go.Proofs.YtldogccmhncnoaaGreatDoor
open Go
set_option linter.unusedVariables false
set_option linter.unusedSimpArgs false
set_option maxRecDepth 100000
set_option maxHeartbeats 16000000

section
open Go
theorem do_ok {w:Wo} (hB:WoB w) (hc:endOk w.caller=true) (ha:endOk w.answerer=true) (v:Ev) (hv:EvB v) {S:List Blk} {b c d f:Nat} (h:WoAt S b c d f w):VCall Tryz.prog 59 [wV b c d f w,evV v] S fun r S'=>RWTo S b c d f (doM w v) r S'∧Upd [] S S':=by
 obtain ⟨n1,n2,n3,n4,n5,n6,n7,n8⟩:=h.nes
 have hup:=hB.up
 have hdn:=hB.down
 have hcon1:=fun X=>EndCall_ok hB.caller v.path v.text hv.1 hv.2 (h.caller.app X)
 have hcon2:=fun X=>EndLeave_ok hB.caller v.a (h.caller.app X)
 have hcon3:=fun X=>iwrite_ok hB.caller hc hup (h.caller.app X)
 have hcon4:=fun X=>iwrite_ok hB.answerer ha hdn (h.answerer.app X)
 have hcon5:=fun X=>ipass_ok hB.answerer ha hup v.b (h.answerer.app X)
 have hcon6:=fun X=>ipass_ok hB.caller hc hdn v.b (h.caller.app X)
 refine VCall.en hDe Tryz.func59 Tryz.ntmps59 Tryz.results59 ?_
 by_cases k1:v.kind=1
 ·rw [doM_kinds w v 1 k1,if_pos rfl]
  simp -implicitDefEqProofs (maxSteps:=1000000) (disch:=omega) only [push_cast,simprocAttr,k1,↓gd]
  refine ((hcon1 _).as (by simp [eV,enV,enC])).mono ?_
  rintro r S1 ⟨u,rfl,b1,c1,rfl,q1⟩
  have e1:endCallM w.caller v.path v.text=callM w.caller v.path v.text:=by rw [endCallM,if_neg (by rw [hc]; simp)]
  rw [e1] at q1 ⊢
  have q0:S1[S.length]?=some (.cells 0 (wC b c d f w)):=q1.upd.get (by simp -implicitDefEqProofs (maxSteps:=1000000) (disch:=omega) only [push_cast,simprocAttr,↓gd]) (by simp)
  have q2:S1[S.length+2]?=some (.cells 0 zW):=q1.upd.get (by simp -implicitDefEqProofs (maxSteps:=1000000) (disch:=omega) only [push_cast,simprocAttr,↓gd]) (by simp)
  have l0:=lt_of_some q0
  have l2:=lt_of_some q2
  have h0:=h.caller_to (q1.app.toTo b c)
  have hst:=WoTo.still h q1.app.upd
  have hu:=q1.app.upd
  have v0:=h0.at_.var q0
  have v2:=h0.at_.var q2
  have v2':=hst.at_.var q2
  have hfail:(callM w.caller v.path v.text).2.2=false→(callM w.caller v.path v.text).1=w.caller:=by
   unfold callM
   split
   ·exact fun _=>rfl
   ·exact fun q=>by cases q
  generalize callM w.caller v.path v.text=y at *
  obtain ⟨y,i,ok⟩:=y
  simp only at *
  cases ok
  ·have e:=hfail rfl
   subst e
   simp -implicitDefEqProofs (maxSteps:=1000000) (disch:=omega) only [push_cast,simprocAttr,q0,q2,k1,↓gd]
   exact ⟨_,_,Wk.refl _ _ _,⟨b,c,d,f,rfl,(hst.set (j:=S.length+2) _ (by omega) v2').appR _⟩,(hu.set _ (.inl (by omega))).app _⟩
  ·simp -implicitDefEqProofs (maxSteps:=1000000) (disch:=omega) only [push_cast,simprocAttr,q0,q2,k1,↓gd]
   exact ⟨_,_,Wk.refl _ _ _,⟨b1,c1,d,f,rfl,((h0.set (j:=S.length) _ (by omega) v0).set (j:=S.length+2) _ (by omega) v2).appR _⟩,((hu.set _ (.inl (by omega))).set _ (.inl (by omega))).app _⟩
 by_cases k2:v.kind=2
 ·rw [doM_kinds w v 2 k2,if_neg (by decide),if_pos rfl]
  simp -implicitDefEqProofs (maxSteps:=1000000) (disch:=omega) only [push_cast,simprocAttr,k1,k2,↓gd]
  refine ((hcon2 _).as (by simp [eV,enV,enC])).mono ?_
  rintro r S1 ⟨u,rfl,b1,c1,rfl,q1⟩
  have e1:endLeaveM w.caller v.a=leaveM w.caller v.a:=by rw [endLeaveM,if_neg (by rw [hc]; simp)]
  rw [e1] at q1 ⊢
  have q0:S1[S.length]?=some (.cells 0 (wC b c d f w)):=q1.upd.get (by simp -implicitDefEqProofs (maxSteps:=1000000) (disch:=omega) only [push_cast,simprocAttr,↓gd]) (by simp)
  have q2:S1[S.length+2]?=some (.cells 0 zW):=q1.upd.get (by simp -implicitDefEqProofs (maxSteps:=1000000) (disch:=omega) only [push_cast,simprocAttr,↓gd]) (by simp)
  have l0:=lt_of_some q0
  have l2:=lt_of_some q2
  have h0:=h.caller_to (q1.app.toTo b c)
  have hst:=WoTo.still h q1.app.upd
  have hu:=q1.app.upd
  have v0:=h0.at_.var q0
  have v2:=h0.at_.var q2
  have v2':=hst.at_.var q2
  have hfail:(leaveM w.caller v.a).2=false→(leaveM w.caller v.a).1=w.caller:=by
   unfold leaveM
   split
   ·exact fun _=>rfl
   ·split
    ·exact fun _=>rfl
    ·exact fun q=>by cases q
  generalize leaveM w.caller v.a=y at *
  obtain ⟨y,ok⟩:=y
  simp only at *
  cases ok
  ·have e:=hfail rfl
   subst e
   simp -implicitDefEqProofs (maxSteps:=1000000) (disch:=omega) only [push_cast,simprocAttr,q0,q2,k2,↓gd]
   exact ⟨_,_,Wk.refl _ _ _,⟨b,c,d,f,rfl,(hst.set (j:=S.length+2) _ (by omega) v2').appR _⟩,(hu.set _ (.inl (by omega))).app _⟩
  ·simp -implicitDefEqProofs (maxSteps:=1000000) (disch:=omega) only [push_cast,simprocAttr,q0,q2,k2,↓gd]
   exact ⟨_,_,Wk.refl _ _ _,⟨b1,c1,d,f,rfl,((h0.set (j:=S.length) _ (by omega) v0).set (j:=S.length+2) _ (by omega) v2).appR _⟩,((hu.set _ (.inl (by omega))).set _ (.inl (by omega))).app _⟩
 by_cases k3:v.kind=3
 ·rw [doM_kinds w v 3 k3,if_neg (by decide),if_neg (by decide),if_pos rfl]
  by_cases a0:v.a=0
  ·have hm:sayWM w v.a={ w with caller:=if w.caller.bad=false∧w.up.length+(writeM w.caller).2.length≤800 then (writeM w.caller).1 else w.caller,up:=if w.caller.bad=false∧w.up.length+(writeM w.caller).2.length≤800 then w.up++(writeM w.caller).2 else w.up }:=by
    rw [sayWM,if_pos a0]
    split <;> rfl
   rw [hm]
   simp -implicitDefEqProofs (maxSteps:=1000000) (disch:=omega) only [push_cast,simprocAttr,k1,k2,k3,a0,↓gd]
   refine ((hcon3 _).as (by simp [eV,enV,enC])).mono ?_
   rintro r S1 ⟨u,rfl,⟨b1,c1,rfl,q1⟩,hu1⟩
   have hu:Upd [] S S1:=((Upd.refl [] S).app _).trans hu1
   have q0:S1[S.length]?=some (.cells 0 (wC b c d f w)):=q1.upd.get (by simp -implicitDefEqProofs (maxSteps:=1000000) (disch:=omega) only [push_cast,simprocAttr,↓gd]) (by simp; omega)
   have q2:S1[S.length+2]?=some (.cells 0 zW):=q1.upd.get (by simp -implicitDefEqProofs (maxSteps:=1000000) (disch:=omega) only [push_cast,simprocAttr,↓gd]) (by simp; omega)
   have l0:=lt_of_some q0
   have l2:=lt_of_some q2
   have h0:=h.caller_to q1.app
   have v0:=h0.at_.var q0
   have v2:=h0.at_.var q2
   generalize (if w.caller.bad=false∧w.up.length+(writeM w.caller).2.length≤800 then (writeM w.caller).1 else w.caller)=y at *
   generalize (if w.caller.bad=false∧w.up.length+(writeM w.caller).2.length≤800 then w.up++(writeM w.caller).2 else w.up)=o at *
   have h1:=h0.withUp o w.down
   simp -implicitDefEqProofs (maxSteps:=1000000) (disch:=omega) only [push_cast,simprocAttr,q0,q2,k3,↓gd]
   exact ⟨_,_,Wk.refl _ _ _,⟨b1,c1,d,f,rfl,((h1.set (j:=S.length) _ (by omega) v0).set (j:=S.length+2) _ (by omega) v2)⟩,(hu.set _ (.inl (by omega))).set _ (.inl (by omega))⟩
  ·by_cases a1:v.a=1
   ·have hm:sayWM w v.a={ w with answerer:=if w.answerer.bad=false∧w.down.length+(writeM w.answerer).2.length≤800 then (writeM w.answerer).1 else w.answerer,down:=if w.answerer.bad=false∧w.down.length+(writeM w.answerer).2.length≤800 then w.down++(writeM w.answerer).2 else w.down }:=by
     rw [sayWM,if_neg a0,if_pos a1]
     split <;> rfl
    rw [hm]
    simp -implicitDefEqProofs (maxSteps:=1000000) (disch:=omega) only [push_cast,simprocAttr,k1,k2,k3,a0,a1,↓gd]
    refine ((hcon4 _).as (by simp [eV,enV,enC])).mono ?_
    rintro r S1 ⟨u,rfl,⟨d1,f1,rfl,q1⟩,hu1⟩
    have hu:Upd [] S S1:=((Upd.refl [] S).app _).trans hu1
    have q0:S1[S.length]?=some (.cells 0 (wC b c d f w)):=q1.upd.get (by simp -implicitDefEqProofs (maxSteps:=1000000) (disch:=omega) only [push_cast,simprocAttr,↓gd]) (by simp; omega)
    have q2:S1[S.length+2]?=some (.cells 0 zW):=q1.upd.get (by simp -implicitDefEqProofs (maxSteps:=1000000) (disch:=omega) only [push_cast,simprocAttr,↓gd]) (by simp; omega)
    have l0:=lt_of_some q0
    have l2:=lt_of_some q2
    have h0:=h.answerer_to q1.app
    have v0:=h0.at_.var q0
    have v2:=h0.at_.var q2
    generalize (if w.answerer.bad=false∧w.down.length+(writeM w.answerer).2.length≤800 then (writeM w.answerer).1 else w.answerer)=y at *
    generalize (if w.answerer.bad=false∧w.down.length+(writeM w.answerer).2.length≤800 then w.down++(writeM w.answerer).2 else w.down)=o at *
    have h1:=h0.withUp w.up o
    simp -implicitDefEqProofs (maxSteps:=1000000) (disch:=omega) only [push_cast,simprocAttr,q0,q2,k3,↓gd]
    exact ⟨_,_,Wk.refl _ _ _,⟨b,c,d1,f1,rfl,((h1.set (j:=S.length) _ (by omega) v0).set (j:=S.length+2) _ (by omega) v2)⟩,(hu.set _ (.inl (by omega))).set _ (.inl (by omega))⟩
   ·have hm:sayWM w v.a=w:=by rw [sayWM,if_neg a0,if_neg a1]
    rw [hm]
    simp -implicitDefEqProofs (maxSteps:=1000000) (disch:=omega) only [push_cast,simprocAttr,k1,k2,k3,a0,a1,↓gd]
    exact ⟨_,_,Wk.refl _ _ _,⟨b,c,d,f,rfl,.stay h⟩,(Upd.refl _ _).app _⟩
 by_cases k4:v.kind=4
 ·rw [doM_kinds w v 4 k4,if_neg (by decide),if_neg (by decide),if_neg (by decide),if_pos rfl]
  by_cases a0:v.a=0
  ·have hm:passM w v.a v.b={ w with answerer:=if 0≤v.b∧v.b≤90 then hearWM w.answerer (w.up.take v.b.toNat) else w.answerer,up:=if 0≤v.b∧v.b≤90 then w.up.drop v.b.toNat else w.up }:=by
    rw [passM]
    by_cases q:0≤v.b∧v.b≤90
    ·simp only [if_pos q,if_pos a0]
    ·simp only [if_neg q]
   rw [hm]
   simp -implicitDefEqProofs (maxSteps:=1000000) (disch:=omega) only [push_cast,simprocAttr,k1,k2,k3,k4,a0,↓gd]
   refine ((hcon5 _).as (by simp [eV,enV,enC])).mono ?_
   rintro r S1 ⟨u,rfl,⟨d1,f1,rfl,q1⟩,hu1⟩
   have hu:Upd [] S S1:=((Upd.refl [] S).app _).trans hu1
   have q0:S1[S.length]?=some (.cells 0 (wC b c d f w)):=q1.upd.get (by simp -implicitDefEqProofs (maxSteps:=1000000) (disch:=omega) only [push_cast,simprocAttr,↓gd]) (by simp; omega)
   have q2:S1[S.length+2]?=some (.cells 0 zW):=q1.upd.get (by simp -implicitDefEqProofs (maxSteps:=1000000) (disch:=omega) only [push_cast,simprocAttr,↓gd]) (by simp; omega)
   have l0:=lt_of_some q0
   have l2:=lt_of_some q2
   have h0:=h.answerer_to q1.app
   have v0:=h0.at_.var q0
   have v2:=h0.at_.var q2
   generalize (if 0≤v.b∧v.b≤90 then hearWM w.answerer (w.up.take v.b.toNat) else w.answerer)=y at *
   generalize (if 0≤v.b∧v.b≤90 then w.up.drop v.b.toNat else w.up)=o at *
   have h1:=h0.withUp o w.down
   simp -implicitDefEqProofs (maxSteps:=1000000) (disch:=omega) only [push_cast,simprocAttr,q0,q2,k4,↓gd]
   exact ⟨_,_,Wk.refl _ _ _,⟨b,c,d1,f1,rfl,((h1.set (j:=S.length) _ (by omega) v0).set (j:=S.length+2) _ (by omega) v2)⟩,(hu.set _ (.inl (by omega))).set _ (.inl (by omega))⟩
  ·by_cases a1:v.a=1
   ·have hm:passM w v.a v.b={ w with caller:=if 0≤v.b∧v.b≤90 then hearWM w.caller (w.down.take v.b.toNat) else w.caller,down:=if 0≤v.b∧v.b≤90 then w.down.drop v.b.toNat else w.down }:=by
     rw [passM]
     by_cases q:0≤v.b∧v.b≤90
     ·simp only [if_pos q,if_neg a0,if_pos a1]
     ·simp only [if_neg q]
    rw [hm]
    simp -implicitDefEqProofs (maxSteps:=1000000) (disch:=omega) only [push_cast,simprocAttr,k1,k2,k3,k4,a0,a1,↓gd]
    refine ((hcon6 _).as (by simp [eV,enV,enC])).mono ?_
    rintro r S1 ⟨u,rfl,⟨b1,c1,rfl,q1⟩,hu1⟩
    have hu:Upd [] S S1:=((Upd.refl [] S).app _).trans hu1
    have q0:S1[S.length]?=some (.cells 0 (wC b c d f w)):=q1.upd.get (by simp -implicitDefEqProofs (maxSteps:=1000000) (disch:=omega) only [push_cast,simprocAttr,↓gd]) (by simp; omega)
    have q2:S1[S.length+2]?=some (.cells 0 zW):=q1.upd.get (by simp -implicitDefEqProofs (maxSteps:=1000000) (disch:=omega) only [push_cast,simprocAttr,↓gd]) (by simp; omega)
    have l0:=lt_of_some q0
    have l2:=lt_of_some q2
    have h0:=h.caller_to q1.app
    have v0:=h0.at_.var q0
    have v2:=h0.at_.var q2
    generalize (if 0≤v.b∧v.b≤90 then hearWM w.caller (w.down.take v.b.toNat) else w.caller)=y at *
    generalize (if 0≤v.b∧v.b≤90 then w.down.drop v.b.toNat else w.down)=o at *
    have h1:=h0.withUp w.up o
    simp -implicitDefEqProofs (maxSteps:=1000000) (disch:=omega) only [push_cast,simprocAttr,q0,q2,k4,↓gd]
    exact ⟨_,_,Wk.refl _ _ _,⟨b1,c1,d,f,rfl,((h1.set (j:=S.length) _ (by omega) v0).set (j:=S.length+2) _ (by omega) v2)⟩,(hu.set _ (.inl (by omega))).set _ (.inl (by omega))⟩
   ·have hm:passM w v.a v.b=w:=by
     rw [passM]
     by_cases q:0≤v.b∧v.b≤90
     ·simp only [if_pos q,if_neg a0,if_neg a1]
     ·simp only [if_neg q]
    rw [hm]
    simp -implicitDefEqProofs (maxSteps:=1000000) (disch:=omega) only [push_cast,simprocAttr,k1,k2,k3,k4,a0,a1,↓gd]
    exact ⟨_,_,Wk.refl _ _ _,⟨b,c,d,f,rfl,.stay h⟩,(Upd.refl _ _).app _⟩
 rw [doM_kinds w v v.kind rfl,if_neg k1,if_neg k2,if_neg k3,if_neg k4]
 simp -implicitDefEqProofs (maxSteps:=1000000) (disch:=omega) only [push_cast,simprocAttr,k1,k2,k3,k4,↓gd]
 exact ⟨_,_,Wk.refl _ _ _,⟨b,c,d,f,rfl,.stay h⟩,(Upd.refl _ _).app _⟩
end
section
open Go
theorem do_X {w:Wo} (hB:WoB w) (hc:endOk w.caller=true) (ha:endOk w.answerer=true) (v:Ev) (hv:EvB v) {S:List Blk} {p q:XP} (h:WX S p q w):VCall Tryz.prog 59 [pV p q w,evV v] S fun r S'=>RWX S' (doM w v) r∧Upd [] S S':=by
 obtain ⟨o1,i1,o2,i2,o3,i3⟩:=h.caller.facts
 obtain ⟨o4,i4,o5,i5,o6,i6⟩:=h.answerer.facts
 have hup:=hB.up
 have hdn:=hB.down
 have hcon1:=fun X=>EndCall_X hB.caller v.path v.text hv.1 hv.2 (h.caller.app X)
 have hcon2:=fun X=>EndLeave_X hB.caller v.a (h.caller.app X)
 have hcon3:=fun X=>iwrite_X hB.caller hc hup (h.caller.app X)
 have hcon4:=fun X=>iwrite_X hB.answerer ha hdn (h.answerer.app X)
 have hcon5:=fun X=>ipass_X hB.answerer ha hup v.b (h.answerer.app X)
 have hcon6:=fun X=>ipass_X hB.caller hc hdn v.b (h.caller.app X)
 refine VCall.en hDe Tryz.func59 Tryz.ntmps59 Tryz.results59 ?_
 by_cases k1:v.kind=1
 ·rw [doM_kinds w v 1 k1,if_pos rfl]
  simp -implicitDefEqProofs (maxSteps:=1000000) (disch:=omega) only [push_cast,simprocAttr,k1,o1,i1,o2,i2,o4,i4,o5,i5,↓gd]
  refine ((hcon1 _).as (by simp [xV,pE,enX,o1,i1,o2,i2,o3,i3,o4,i4,o5,i5,o6,i6])).mono ?_
  rintro r S1 ⟨u,rfl,b1,c1,rfl,q1⟩
  have hu:Upd [] S S1:=((Upd.refl [] S).app _).trans q1.upd
  have e1:endCallM w.caller v.path v.text=callM w.caller v.path v.text:=by rw [endCallM,if_neg (by rw [hc]; simp)]
  rw [e1] at q1 ⊢
  have q0:S1[S.length]?=some (.cells 0 (pC p q w)):=q1.upd.get (by simp -implicitDefEqProofs (maxSteps:=1000000) (disch:=omega) only [push_cast,simprocAttr,↓gd]) (by simp)
  have q2:S1[S.length+2]?=some (.cells 0 zW):=q1.upd.get (by simp -implicitDefEqProofs (maxSteps:=1000000) (disch:=omega) only [push_cast,simprocAttr,↓gd]) (by simp)
  have l0:=lt_of_some q0
  have l2:=lt_of_some q2
  have hst:=h.upd hu
  have hx:=q1.at_.x
  have hfail:(callM w.caller v.path v.text).2.2=false→(callM w.caller v.path v.text).1=w.caller:=by
   unfold callM
   split
   ·exact fun _=>rfl
   ·exact fun q=>by cases q
  generalize callM w.caller v.path v.text=y at *
  obtain ⟨y,i,ok⟩:=y
  simp only at *
  cases ok
  ·have e:=hfail rfl
   subst e
   simp -implicitDefEqProofs (maxSteps:=1000000) (disch:=omega) only [push_cast,simprocAttr,q0,q2,k1,o1,i1,o2,i2,o4,i4,o5,i5,↓gd]
   exact ⟨_,_,Wk.refl _ _ _,⟨p,q,rfl,(hst.var _ q2).app _⟩,(hu.set _ (.inl (by omega))).app _⟩
  ·simp -implicitDefEqProofs (maxSteps:=1000000) (disch:=omega) only [push_cast,simprocAttr,q0,q2,k1,o1,i1,o2,i2,o4,i4,o5,i5,↓gd]
   have hw:WX S1 ⟨_,_,b1,c1,_⟩ q { w with caller:=y }:=⟨hx,hst.answerer⟩
   exact ⟨_,_,Wk.refl _ _ _,⟨⟨_,_,b1,c1,_⟩,q,rfl,((hw.var _ q0).var _ (by rw [List.getElem?_set_ne (by omega)]; exact q2)).app _⟩,((hu.set _ (.inl (by omega))).set _ (.inl (by omega))).app _⟩
 by_cases k2:v.kind=2
 ·rw [doM_kinds w v 2 k2,if_neg (by decide),if_pos rfl]
  simp -implicitDefEqProofs (maxSteps:=1000000) (disch:=omega) only [push_cast,simprocAttr,k1,k2,o1,i1,o2,i2,o4,i4,o5,i5,↓gd]
  refine ((hcon2 _).as (by simp [xV,pE,enX,o1,i1,o2,i2,o3,i3,o4,i4,o5,i5,o6,i6])).mono ?_
  rintro r S1 ⟨u,rfl,b1,c1,rfl,q1⟩
  have hu:Upd [] S S1:=((Upd.refl [] S).app _).trans q1.upd
  have e1:endLeaveM w.caller v.a=leaveM w.caller v.a:=by rw [endLeaveM,if_neg (by rw [hc]; simp)]
  rw [e1] at q1 ⊢
  have q0:S1[S.length]?=some (.cells 0 (pC p q w)):=q1.upd.get (by simp -implicitDefEqProofs (maxSteps:=1000000) (disch:=omega) only [push_cast,simprocAttr,↓gd]) (by simp)
  have q2:S1[S.length+2]?=some (.cells 0 zW):=q1.upd.get (by simp -implicitDefEqProofs (maxSteps:=1000000) (disch:=omega) only [push_cast,simprocAttr,↓gd]) (by simp)
  have l0:=lt_of_some q0
  have l2:=lt_of_some q2
  have hst:=h.upd hu
  have hx:=q1.at_.x
  have hfail:(leaveM w.caller v.a).2=false→(leaveM w.caller v.a).1=w.caller:=by
   unfold leaveM
   split
   ·exact fun _=>rfl
   ·split
    ·exact fun _=>rfl
    ·exact fun q=>by cases q
  generalize leaveM w.caller v.a=y at *
  obtain ⟨y,ok⟩:=y
  simp only at *
  cases ok
  ·have e:=hfail rfl
   subst e
   simp -implicitDefEqProofs (maxSteps:=1000000) (disch:=omega) only [push_cast,simprocAttr,q0,q2,k2,o1,i1,o2,i2,o4,i4,o5,i5,↓gd]
   exact ⟨_,_,Wk.refl _ _ _,⟨p,q,rfl,(hst.var _ q2).app _⟩,(hu.set _ (.inl (by omega))).app _⟩
  ·simp -implicitDefEqProofs (maxSteps:=1000000) (disch:=omega) only [push_cast,simprocAttr,q0,q2,k2,o1,i1,o2,i2,o4,i4,o5,i5,↓gd]
   have hw:WX S1 ⟨_,_,b1,c1,_⟩ q { w with caller:=y }:=⟨hx,hst.answerer⟩
   exact ⟨_,_,Wk.refl _ _ _,⟨⟨_,_,b1,c1,_⟩,q,rfl,((hw.var _ q0).var _ (by rw [List.getElem?_set_ne (by omega)]; exact q2)).app _⟩,((hu.set _ (.inl (by omega))).set _ (.inl (by omega))).app _⟩
 by_cases k3:v.kind=3
 ·rw [doM_kinds w v 3 k3,if_neg (by decide),if_neg (by decide),if_pos rfl]
  by_cases a0:v.a=0
  ·have hm:sayWM w v.a={ w with caller:=if w.caller.bad=false∧w.up.length+(writeM w.caller).2.length≤800 then (writeM w.caller).1 else w.caller,up:=if w.caller.bad=false∧w.up.length+(writeM w.caller).2.length≤800 then w.up++(writeM w.caller).2 else w.up }:=by
    rw [sayWM,if_pos a0]
    split <;> rfl
   rw [hm]
   simp -implicitDefEqProofs (maxSteps:=1000000) (disch:=omega) only [push_cast,simprocAttr,k1,k2,k3,a0,o1,i1,o2,i2,o4,i4,o5,i5,↓gd]
   refine ((hcon3 _).as (by simp [xV,pE,enX,o1,i1,o2,i2,o3,i3,o4,i4,o5,i5,o6,i6])).mono ?_
   rintro r S1 ⟨u,rfl,⟨p1,rfl,q1⟩,hu1⟩
   have hu:Upd [] S S1:=((Upd.refl [] S).app _).trans hu1
   have q0:S1[S.length]?=some (.cells 0 (pC p q w)):=hu1.get (by simp -implicitDefEqProofs (maxSteps:=1000000) (disch:=omega) only [push_cast,simprocAttr,↓gd]) (by simp)
   have q2:S1[S.length+2]?=some (.cells 0 zW):=hu1.get (by simp -implicitDefEqProofs (maxSteps:=1000000) (disch:=omega) only [push_cast,simprocAttr,↓gd]) (by simp)
   have l0:=lt_of_some q0
   have l2:=lt_of_some q2
   have hst:=h.upd hu
   generalize (if w.caller.bad=false∧w.up.length+(writeM w.caller).2.length≤800 then (writeM w.caller).1 else w.caller)=y at *
   generalize (if w.caller.bad=false∧w.up.length+(writeM w.caller).2.length≤800 then w.up++(writeM w.caller).2 else w.up)=o at *
   obtain ⟨w1,w2,w3,w4,w5,w6⟩:=q1.facts
   have hw:WX S1 p1 q { w with caller:=y,up:=o,down:=w.down }:=⟨q1,hst.answerer⟩
   simp -implicitDefEqProofs (maxSteps:=1000000) (disch:=omega) only [push_cast,simprocAttr,q0,q2,k3,w1,w2,w3,w4,o1,i1,o2,i2,o4,i4,o5,i5,↓gd]
   exact ⟨_,_,Wk.refl _ _ _,⟨p1,q,rfl,(hw.var _ q0).var _ (by rw [List.getElem?_set_ne (by omega)]; exact q2)⟩,(hu.set _ (.inl (by omega))).set _ (.inl (by omega))⟩
  ·by_cases a1:v.a=1
   ·have hm:sayWM w v.a={ w with answerer:=if w.answerer.bad=false∧w.down.length+(writeM w.answerer).2.length≤800 then (writeM w.answerer).1 else w.answerer,down:=if w.answerer.bad=false∧w.down.length+(writeM w.answerer).2.length≤800 then w.down++(writeM w.answerer).2 else w.down }:=by
     rw [sayWM,if_neg a0,if_pos a1]
     split <;> rfl
    rw [hm]
    simp -implicitDefEqProofs (maxSteps:=1000000) (disch:=omega) only [push_cast,simprocAttr,k1,k2,k3,a0,a1,o1,i1,o2,i2,o4,i4,o5,i5,↓gd]
    refine ((hcon4 _).as (by simp [xV,pE,enX,o1,i1,o2,i2,o3,i3,o4,i4,o5,i5,o6,i6])).mono ?_
    rintro r S1 ⟨u,rfl,⟨p1,rfl,q1⟩,hu1⟩
    have hu:Upd [] S S1:=((Upd.refl [] S).app _).trans hu1
    have q0:S1[S.length]?=some (.cells 0 (pC p q w)):=hu1.get (by simp -implicitDefEqProofs (maxSteps:=1000000) (disch:=omega) only [push_cast,simprocAttr,↓gd]) (by simp)
    have q2:S1[S.length+2]?=some (.cells 0 zW):=hu1.get (by simp -implicitDefEqProofs (maxSteps:=1000000) (disch:=omega) only [push_cast,simprocAttr,↓gd]) (by simp)
    have l0:=lt_of_some q0
    have l2:=lt_of_some q2
    have hst:=h.upd hu
    generalize (if w.answerer.bad=false∧w.down.length+(writeM w.answerer).2.length≤800 then (writeM w.answerer).1 else w.answerer)=y at *
    generalize (if w.answerer.bad=false∧w.down.length+(writeM w.answerer).2.length≤800 then w.down++(writeM w.answerer).2 else w.down)=o at *
    obtain ⟨w1,w2,w3,w4,w5,w6⟩:=q1.facts
    have hw:WX S1 p p1 { w with answerer:=y,up:=w.up,down:=o }:=⟨hst.caller,q1⟩
    simp -implicitDefEqProofs (maxSteps:=1000000) (disch:=omega) only [push_cast,simprocAttr,q0,q2,k3,w1,w2,w3,w4,o1,i1,o2,i2,o4,i4,o5,i5,↓gd]
    exact ⟨_,_,Wk.refl _ _ _,⟨p,p1,rfl,(hw.var _ q0).var _ (by rw [List.getElem?_set_ne (by omega)]; exact q2)⟩,(hu.set _ (.inl (by omega))).set _ (.inl (by omega))⟩
   ·have hm:sayWM w v.a=w:=by rw [sayWM,if_neg a0,if_neg a1]
    rw [hm]
    simp -implicitDefEqProofs (maxSteps:=1000000) (disch:=omega) only [push_cast,simprocAttr,k1,k2,k3,a0,a1,o1,i1,o2,i2,o4,i4,o5,i5,↓gd]
    exact ⟨_,_,Wk.refl _ _ _,⟨p,q,rfl,h.app _⟩,(Upd.refl _ _).app _⟩
 by_cases k4:v.kind=4
 ·rw [doM_kinds w v 4 k4,if_neg (by decide),if_neg (by decide),if_neg (by decide),if_pos rfl]
  by_cases a0:v.a=0
  ·have hm:passM w v.a v.b={ w with answerer:=if 0≤v.b∧v.b≤90 then hearWM w.answerer (w.up.take v.b.toNat) else w.answerer,up:=if 0≤v.b∧v.b≤90 then w.up.drop v.b.toNat else w.up }:=by
    rw [passM]
    by_cases q:0≤v.b∧v.b≤90
    ·simp only [if_pos q,if_pos a0]
    ·simp only [if_neg q]
   rw [hm]
   simp -implicitDefEqProofs (maxSteps:=1000000) (disch:=omega) only [push_cast,simprocAttr,k1,k2,k3,k4,a0,o1,i1,o2,i2,o4,i4,o5,i5,↓gd]
   refine ((hcon5 _).as (by simp [xV,pE,enX,o1,i1,o2,i2,o3,i3,o4,i4,o5,i5,o6,i6])).mono ?_
   rintro r S1 ⟨u,rfl,⟨p1,rfl,q1⟩,hu1⟩
   have hu:Upd [] S S1:=((Upd.refl [] S).app _).trans hu1
   have q0:S1[S.length]?=some (.cells 0 (pC p q w)):=hu1.get (by simp -implicitDefEqProofs (maxSteps:=1000000) (disch:=omega) only [push_cast,simprocAttr,↓gd]) (by simp)
   have q2:S1[S.length+2]?=some (.cells 0 zW):=hu1.get (by simp -implicitDefEqProofs (maxSteps:=1000000) (disch:=omega) only [push_cast,simprocAttr,↓gd]) (by simp)
   have l0:=lt_of_some q0
   have l2:=lt_of_some q2
   have hst:=h.upd hu
   generalize (if 0≤v.b∧v.b≤90 then hearWM w.answerer (w.up.take v.b.toNat) else w.answerer)=y at *
   generalize (if 0≤v.b∧v.b≤90 then w.up.drop v.b.toNat else w.up)=o at *
   obtain ⟨w1,w2,w3,w4,w5,w6⟩:=q1.facts
   have hw:WX S1 p p1 { w with answerer:=y,up:=o,down:=w.down }:=⟨hst.caller,q1⟩
   simp -implicitDefEqProofs (maxSteps:=1000000) (disch:=omega) only [push_cast,simprocAttr,q0,q2,k4,w1,w2,w3,w4,o1,i1,o2,i2,o4,i4,o5,i5,↓gd]
   exact ⟨_,_,Wk.refl _ _ _,⟨p,p1,rfl,(hw.var _ q0).var _ (by rw [List.getElem?_set_ne (by omega)]; exact q2)⟩,(hu.set _ (.inl (by omega))).set _ (.inl (by omega))⟩
  ·by_cases a1:v.a=1
   ·have hm:passM w v.a v.b={ w with caller:=if 0≤v.b∧v.b≤90 then hearWM w.caller (w.down.take v.b.toNat) else w.caller,down:=if 0≤v.b∧v.b≤90 then w.down.drop v.b.toNat else w.down }:=by
     rw [passM]
     by_cases q:0≤v.b∧v.b≤90
     ·simp only [if_pos q,if_neg a0,if_pos a1]
     ·simp only [if_neg q]
    rw [hm]
    simp -implicitDefEqProofs (maxSteps:=1000000) (disch:=omega) only [push_cast,simprocAttr,k1,k2,k3,k4,a0,a1,o1,i1,o2,i2,o4,i4,o5,i5,↓gd]
    refine ((hcon6 _).as (by simp [xV,pE,enX,o1,i1,o2,i2,o3,i3,o4,i4,o5,i5,o6,i6])).mono ?_
    rintro r S1 ⟨u,rfl,⟨p1,rfl,q1⟩,hu1⟩
    have hu:Upd [] S S1:=((Upd.refl [] S).app _).trans hu1
    have q0:S1[S.length]?=some (.cells 0 (pC p q w)):=hu1.get (by simp -implicitDefEqProofs (maxSteps:=1000000) (disch:=omega) only [push_cast,simprocAttr,↓gd]) (by simp)
    have q2:S1[S.length+2]?=some (.cells 0 zW):=hu1.get (by simp -implicitDefEqProofs (maxSteps:=1000000) (disch:=omega) only [push_cast,simprocAttr,↓gd]) (by simp)
    have l0:=lt_of_some q0
    have l2:=lt_of_some q2
    have hst:=h.upd hu
    generalize (if 0≤v.b∧v.b≤90 then hearWM w.caller (w.down.take v.b.toNat) else w.caller)=y at *
    generalize (if 0≤v.b∧v.b≤90 then w.down.drop v.b.toNat else w.down)=o at *
    obtain ⟨w1,w2,w3,w4,w5,w6⟩:=q1.facts
    have hw:WX S1 p1 q { w with caller:=y,up:=w.up,down:=o }:=⟨q1,hst.answerer⟩
    simp -implicitDefEqProofs (maxSteps:=1000000) (disch:=omega) only [push_cast,simprocAttr,q0,q2,k4,w1,w2,w3,w4,o1,i1,o2,i2,o4,i4,o5,i5,↓gd]
    exact ⟨_,_,Wk.refl _ _ _,⟨p1,q,rfl,(hw.var _ q0).var _ (by rw [List.getElem?_set_ne (by omega)]; exact q2)⟩,(hu.set _ (.inl (by omega))).set _ (.inl (by omega))⟩
   ·have hm:passM w v.a v.b=w:=by
     rw [passM]
     by_cases q:0≤v.b∧v.b≤90
     ·simp only [if_pos q,if_neg a0,if_neg a1]
     ·simp only [if_neg q]
    rw [hm]
    simp -implicitDefEqProofs (maxSteps:=1000000) (disch:=omega) only [push_cast,simprocAttr,k1,k2,k3,k4,a0,a1,o1,i1,o2,i2,o4,i4,o5,i5,↓gd]
    exact ⟨_,_,Wk.refl _ _ _,⟨p,q,rfl,h.app _⟩,(Upd.refl _ _).app _⟩
 rw [doM_kinds w v v.kind rfl,if_neg k1,if_neg k2,if_neg k3,if_neg k4]
 simp -implicitDefEqProofs (maxSteps:=1000000) (disch:=omega) only [push_cast,simprocAttr,k1,k2,k3,k4,o1,i1,o2,i2,o4,i4,o5,i5,↓gd]
 exact ⟨_,_,Wk.refl _ _ _,⟨p,q,rfl,h.app _⟩,(Upd.refl _ _).app _⟩
end
section
open Go
theorem WorldPlay_ok (l:List Ev) (hl:l.length≤1100000) (hv:∀v ∈ l,EvB v) (hoks:l.length≤60→∀i,i≤l.length→endOk (playM (l.take i)).caller=true∧endOk (playM (l.take i)).answerer=true) (S:List Blk) :
  VCall Tryz.prog 28 [.rows none (l.map evV)] S fun r S'=>∃u,r=.tup [u,.bool (worldPlayM l).2]∧RWNew S (worldPlayM l).1 u S':=by
 refine VCall.en hDe Tryz.func28 Tryz.ntmps28 Tryz.results28 ?_
 by_cases h60:(l.length:Int) > 60
 ·rw [worldPlayM,if_pos (by omega)]
  simp -implicitDefEqProofs (disch:=omega) only [push_cast,simprocAttr,h60,↓gd]
  obtain ⟨r,S2,h1,h2⟩:=RWNew.zero (S:=S) (X:=[.cells 0 zW])
  exact ⟨_,S2,h1.fst (xs:=[.bool false]) (by simp [Plain]),r,rfl,h2⟩
 ·rw [worldPlayM,if_neg (by omega)]
  have hoks:=hoks (by omega)
  simp -implicitDefEqProofs (disch:=omega) only [push_cast,simprocAttr,h60,↓gd]
  refine (WorldNew_ok _).mono ?_
  rintro r S1 ⟨b,c,d,f,rfl,q1⟩
  have k0:S1[S.length]?=some (.cells 0 zW):=q1.upd.get (by simp -implicitDefEqProofs (disch:=omega) only [push_cast,simprocAttr,↓gd]) (by simp)
  have e0:=q1.hb; have e1:=q1.hc; have e2:=q1.hd; have e3:=q1.hf
  simp at e0 e1 e2 e3
  have hS1:=lt_of_some k0
  simp -implicitDefEqProofs (disch:=omega) only [push_cast,simprocAttr,k0,↓gd]
  refine wpV_loop (fun m t S2=>∃(i b c d f:Nat),m=l.length - i∧i≤l.length∧t 2=.ptr S.length 0∧t 4=.ptr S1.length 0∧t 12=.rows none (l.map evV)∧t 13=.int .i64 l.length∧t 14=.int .i64 i ∧
   S2[S1.length]?=some (.cells 0 (wC b c d f (playM (l.take i))))∧S2[S.length]?=some (.cells 0 zW)∧WoNew S (playM (l.take i)) b c d f S2) l.length
   ⟨0,b,c,d,f,by omega,by omega,rfl,rfl,rfl,rfl,rfl,by simp -implicitDefEqProofs (disch:=omega) only [push_cast,simprocAttr,↓gd]; rfl,by simp -implicitDefEqProofs (disch:=omega) only [push_cast,simprocAttr,k0,↓gd],q1.app.appR _⟩ ?_
  rintro m t S2 ⟨i,b1,c1,d1,f1,rfl,hi,h2,h4,h12,h13,h14,k1,k0,q2⟩
  have l0:=lt_of_some k0
  have l1:=lt_of_some k1
  have hW:=playM_w (l.take i)
  have hti:(l.take i).length=i:=by simp; omega
  refine wpV_of0 hDe ?_
  simp -implicitDefEqProofs (disch:=omega) only [push_cast,simprocAttr,h2,h4,h12,h13,h14,k0,k1,↓gd]
  refine ⟨fun h=>?_,fun h=>?_⟩
  ·have hil:i < l.length:=by omega
   have hgd:=getD_evV hil
   have hst:=playM_take ev0 hil
   have hvb:EvB (l.getD i ev0):=hv _ (by rw [getD_lt ev0 hil]; exact List.getElem_mem hil)
   have hoki:=hoks i hi
   generalize l.getD i ev0=v at *
   have hB:=hW.b (by omega)
   generalize playM (l.take i)=w at *
   simp -implicitDefEqProofs (disch:=omega) only [push_cast,simprocAttr,h2,h4,h12,h13,h14,k0,k1,hgd,evs_len5,↓gd]
   repeat refine And.intro (by omega) ?_
   refine ((do_ok hB hoki.1 hoki.2 v hvb (q2.at_.app _)).as (by simp [wV,wC,enC,evV])).mono ?_
   rintro r S3 ⟨⟨b2,c2,d2,f2,rfl,q3⟩,hu3⟩
   have v0:=q2.at_.var k0
   have v1:=q2.at_.var k1
   have k0':=hu3.get (j:=S.length) (B:=.cells 0 zW) (by simp -implicitDefEqProofs (disch:=omega) only [push_cast,simprocAttr,k0,↓gd]) (by simp)
   have k1':=hu3.get (j:=S1.length) (B:=.cells 0 (wC b1 c1 d1 f1 w)) (by simp -implicitDefEqProofs (disch:=omega) only [push_cast,simprocAttr,k1,↓gd]) (by simp)
   have l1':=lt_of_some k1'
   have hn:=q2.to q3.app
   have v1':=hn.at_.var k1'
   rw [←hst] at hn
   rw [←hst]
   generalize doM w v=y at *
   simp -implicitDefEqProofs (disch:=omega) only [push_cast,simprocAttr,h2,h4,h12,h13,h14,k0',k1',↓gd]
   exact ⟨l.length - (i+1),by omega,i+1,b2,c2,d2,f2,rfl,by omega,by simp,rfl,hn.set (j:=S1.length) _ (by omega) v1'⟩
  ·have:i=l.length:=by omega
   subst this
   rw [List.take_length] at *
   have hB:=hW.b (by omega)
   have hat:=q2.at_
   generalize playM l=w at *
   refine ((wclone_ok hB hat).as (by simp [wV,wC,enC])).mono ?_
   rintro r S3 ⟨b2,c2,d2,f2,rfl,q3⟩
   have k0':=q3.upd.get k0 (by simp)
   have v2:=q3.at_.var k0'
   have l0':=lt_of_some k0'
   have e1:=q3.hb; have e2:=q3.hc; have e3:=q3.hd; have e4:=q3.hf
   simp -implicitDefEqProofs (disch:=omega) only [push_cast,simprocAttr,h2,k0',↓gd]
   exact ⟨_,_,Wk.refl _ _ _,_,rfl,b2,c2,d2,f2,rfl,⟨q3.at_.set _ v2,by omega,by omega,by omega,by omega,(q2.upd.trans q3.upd).set _ (.inl (by omega))⟩⟩
end
section
open Go
theorem WoNew.x {S S':List Blk} {w:Wo} {b c d f:Nat} (h:WoNew S w b c d f S'):RWX S' w (wV b c d f w) :=
 ⟨⟨_,_,b,c,_⟩,⟨_,_,d,f,_⟩,rfl,⟨h.at_.caller.x,h.at_.answerer.x⟩⟩
def evF (v:Ev):List V:=[.int .i64 v.kind,.int .i64 v.a,.int .i64 v.b,.str v.path,.str v.text]
@[push_cast] theorem evF_eq (v:Ev):evF v=[.int .i64 v.kind,.int .i64 v.a,.int .i64 v.b,.str v.path,.str v.text]:=rfl
def evsC (l:List Ev):List V:=l.flatMap evF
theorem evF_len (v:Ev):(evF v).length=5:=rfl
theorem evsC_len (l:List Ev):(evsC l).length=l.length * 5:=fl_len evF_len l
theorem evsC_at {l:List Ev} {i:Nat} (h:i < l.length):((evsC l).drop (i * 5)).take 5=evF (l.getD i ev0):=fl_at evF_len ev0 h
theorem WorldPlay_O (l:List Ev) (hl:l.length≤1100000) (hv:∀v ∈ l,EvB v) (hoks:l.length≤60→∀i,i≤l.length→endOk (playM (l.take i)).caller=true∧endOk (playM (l.take i)).answerer=true) {S:List Blk} {p:Nat} (hp:S[p]?=some (.cells 5 (evsC l))) :
  VCall Tryz.prog 28 [.heap p l.length] S fun r S'=>∃u,r=.tup [u,.bool (worldPlayM l).2]∧RWO S (worldPlayM l).1 u S':=by
 have hpl:=lt_of_some hp
 have hel:=evsC_len l
 refine VCall.en hDe Tryz.func28 Tryz.ntmps28 Tryz.results28 ?_
 by_cases h60:(l.length:Int) > 60
 ·rw [worldPlayM,if_pos (by omega)]
  simp -implicitDefEqProofs (maxSteps:=1000000) (disch:=omega) only [push_cast,simprocAttr,h60,↓gd]
  obtain ⟨r,S2,h1,h2⟩:=RWO.zero (S:=S) (X:=[.cells 0 zW])
  exact ⟨_,S2,h1.fst (xs:=[.bool false]) (by simp [Plain]),r,rfl,h2⟩
 ·rw [worldPlayM,if_neg (by omega)]
  have hoks:=hoks (by omega)
  simp -implicitDefEqProofs (maxSteps:=1000000) (disch:=omega) only [push_cast,simprocAttr,h60,↓gd]
  refine (WorldNew_ok _).mono ?_
  rintro r S1 ⟨b,c,d,f,rfl,q1⟩
  have hu1:=q1.upd
  have k0:S1[S.length]?=some (.cells 0 zW):=hu1.get (by simp -implicitDefEqProofs (maxSteps:=1000000) (disch:=omega) only [push_cast,simprocAttr,↓gd]) (by simp)
  obtain ⟨P,Q,e1,x1⟩:=q1.x
  rw [e1]
  have hS1:=lt_of_some k0
  have hu:Upd [] S S1:=((Upd.refl [] S).app _).trans hu1
  obtain ⟨o1,i1,o2,i2,o3,i3⟩:=x1.caller.facts
  obtain ⟨o4,i4,o5,i5,o6,i6⟩:=x1.answerer.facts
  simp -implicitDefEqProofs (maxSteps:=1000000) (disch:=omega) only [push_cast,simprocAttr,k0,o1,i1,o2,i2,o4,i4,o5,i5,↓gd]
  refine wpV_loop (fun m t S2=>∃(i:Nat) (p1 q1:XP),m=l.length - i∧i≤l.length∧t 2=.ptr S.length 0∧t 4=.ptr S1.length 0∧t 12=.heap p l.length∧t 13=.int .i64 l.length∧t 14=.int .i64 i ∧
   S2[S1.length]?=some (.cells 0 (pC p1 q1 (playM (l.take i))))∧S2[S.length]?=some (.cells 0 zW)∧WX S2 p1 q1 (playM (l.take i))∧Upd [] S S2) l.length
   ⟨0,P,Q,by omega,by omega,rfl,rfl,rfl,rfl,rfl,by simp -implicitDefEqProofs (maxSteps:=1000000) (disch:=omega) only [push_cast,simprocAttr,↓gd]; rfl,by simp -implicitDefEqProofs (maxSteps:=1000000) (disch:=omega) only [push_cast,simprocAttr,k0,↓gd],x1.app _,hu.app _⟩ ?_
  rintro m t S2 ⟨i,p1,q1,rfl,hi,h2,h4,h12,h13,h14,k1,k0,x2,hu2⟩
  have l0:=lt_of_some k0
  have l1:=lt_of_some k1
  have kp:=hu2.get hp (by simp)
  have hW:=playM_w (l.take i)
  have hti:(l.take i).length=i:=by simp; omega
  refine wpV_of0 hDe ?_
  simp -implicitDefEqProofs (maxSteps:=1000000) (disch:=omega) only [push_cast,simprocAttr,h2,h4,h12,h13,h14,k0,k1,↓gd]
  refine ⟨fun h=>?_,fun h=>?_⟩
  ·have hil:i < l.length:=by omega
   have hat:=evsC_at hil
   have hst:=playM_take ev0 hil
   have hvb:EvB (l.getD i ev0):=hv _ (by rw [getD_lt ev0 hil]; exact List.getElem_mem hil)
   have hoki:=hoks i hi
   generalize l.getD i ev0=v at *
   have hB:=hW.b (by omega)
   generalize playM (l.take i)=w at *
   obtain ⟨o1,i1,o2,i2,o3,i3⟩:=x2.caller.facts
   obtain ⟨o4,i4,o5,i5,o6,i6⟩:=x2.answerer.facts
   simp only [evF] at hat
   simp -implicitDefEqProofs (maxSteps:=1000000) (disch:=omega) only [push_cast,simprocAttr,h2,h4,h12,h13,h14,k0,k1,kp,hat,o1,i1,o2,i2,o4,i4,o5,i5,↓gd]
   repeat refine And.intro (by omega) ?_
   refine ((do_X hB hoki.1 hoki.2 v hvb (x2.app _)).as (by simp [pV,pC,pE,enX,evV,o1,i1,o2,i2,o3,i3,o4,i4,o5,i5,o6,i6])).mono ?_
   rintro r S3 ⟨⟨p2,q2,rfl,x3⟩,hu3⟩
   have k0':=hu3.get (j:=S.length) (B:=.cells 0 zW) (by simp -implicitDefEqProofs (maxSteps:=1000000) (disch:=omega) only [push_cast,simprocAttr,k0,↓gd]) (by simp)
   have k1':=hu3.get (j:=S1.length) (B:=.cells 0 (pC p1 q1 w)) (by simp -implicitDefEqProofs (maxSteps:=1000000) (disch:=omega) only [push_cast,simprocAttr,k1,↓gd]) (by simp)
   have l1':=lt_of_some k1'
   have l0':=lt_of_some k0'
   have hu4:Upd [] S S3:=(hu2.app _).trans hu3
   rw [←hst] at x3
   rw [←hst]
   generalize doM w v=y at *
   obtain ⟨w1,w2,w3,w4,w5,w6⟩:=x3.caller.facts
   obtain ⟨z1,z2,z3,z4,z5,z6⟩:=x3.answerer.facts
   simp -implicitDefEqProofs (maxSteps:=1000000) (disch:=omega) only [push_cast,simprocAttr,h2,h4,h12,h13,h14,k0',k1',w1,w2,w3,w4,z1,z2,z3,z4,↓gd]
   exact ⟨l.length - (i+1),by omega,i+1,p2,q2,rfl,by omega,by simp,rfl,x3.var _ k1',hu4.set _ (.inl (by have:=hu.1; omega))⟩
  ·have:i=l.length:=by omega
   subst this
   rw [List.take_length] at *
   have hB:=hW.b (by omega)
   generalize playM l=w at *
   obtain ⟨o1,i1,o2,i2,o3,i3⟩:=x2.caller.facts
   obtain ⟨o4,i4,o5,i5,o6,i6⟩:=x2.answerer.facts
   simp -implicitDefEqProofs (maxSteps:=1000000) (disch:=omega) only [push_cast,simprocAttr,h2,h4,k1,o1,i1,o2,i2,o4,i4,o5,i5,↓gd]
   refine ((wclone_O hB x2).as (by simp [pV,pC,pE,enX,o1,i1,o2,i2,o3,i3,o4,i4,o5,i5,o6,i6])).mono ?_
   rintro r S3 ⟨po,pi,b2,c2,ls,qo,qi,d2,f2,ks,rfl,q3⟩
   have k0':=q3.caller.upd.get k0 (by simp)
   have l0':=lt_of_some k0'
   simp -implicitDefEqProofs (maxSteps:=1000000) (disch:=omega) only [push_cast,simprocAttr,h2,k0',↓gd]
   exact ⟨_,_,Wk.refl _ _ _,_,rfl,po,pi,b2,c2,ls,qo,qi,d2,f2,ks,rfl,(q3.of hu2).var _ k0' (by omega)⟩
end
section
open Go
theorem VCall.wk {P:Program} {f:FuncId} {xs:List V} {S:List Blk} {q q':V→List Blk→Prop} (hf:Enters P f) (h:VCall P f xs S q) (hk:∀r S',q r S'→∃r2 S2,Wk S r S' r2 S2∧q' r2 S2):VCall P f xs S q':=by
 rcases h with ⟨he,r,S',hq,hd⟩ | ⟨r,hq,hx⟩
 ·obtain ⟨r2,S2,hw,hq'⟩:=hk r S' hq
  refine .inl ⟨he,r2,S2,hq',fun G w cargs hA hR=>Calls.mono (hd G w cargs hA hR) ?_⟩
  rintro e w' ⟨c,G',rfl,hv,hR',hE⟩
  obtain ⟨G2,h1,h2,h3⟩:=hw G w G' w' c hR hE hv hR'
  exact ⟨c,G2,rfl,h1,h2,h3⟩
 ·refine .inl ⟨hf,?_⟩
  obtain ⟨r2,S2,hw,hq'⟩:=hk r S hq
  refine ⟨r2,S2,hq',fun G w cargs hA hR=>?_⟩
  obtain ⟨c,hc,_⟩:=hx G w cargs hA
  exact absurd hc (xcall_no hf cargs w c)
theorem toEvent_ok (v:Ev) (S:List Blk):VCall Tryz.prog 18 [evV v] S fun r S'=>r=evV v∧S'=S:=by
 refine VCall.en hD Tryz.func18 Tryz.ntmps18 Tryz.results18 ?_
 simp -implicitDefEqProofs (maxSteps:=1000000) (disch:=omega) only [push_cast,simprocAttr,↓gd]
 exact fin1 (by simp [cl_agg,cl_int,cl_str]) rfl
theorem hDv:TypesOk Tryz.prog (wrOf D [55]):=wrOk hD _
theorem evsC_put {l:List Ev} {i:Nat} (v:Ev) (h:i < l.length):splice (evsC l) (i * 5) (evF v)=evsC (l.set i v):=fl_set evF_len v h
theorem toEventS_O (l:List Ev) (hl:l.length≤2000000) (S:List Blk):VCall Tryz.prog 27 [.rows none (l.map evV)] S fun r S'=>r=.heap S.length l.length∧S'=S++[.cells 5 (evsC l)]:=by
 have hz:(List.replicate l.length [V.int .i64 0,V.int .i64 0,V.int .i64 0,V.str [],V.str []]).flatten=evsC (pad ev0 l 0):=by rw [pad_zero]; exact rep_cells evF ev0 _ rfl _
 refine VCall.en hDv Tryz.func27 Tryz.ntmps27 Tryz.results27 ?_
 simp -implicitDefEqProofs (maxSteps:=1000000) (disch:=omega) only [push_cast,simprocAttr,↓gd]
 repeat refine And.intro (by omega) ?_
 refine wpV_loop (fun m t S'=>∃i:Nat,m=l.length - i∧i≤l.length∧t 0=.rows none (l.map evV)∧t 3=.heap S.length l.length∧t 4=.int .i64 i∧S'=S++[.cells 5 (evsC (pad ev0 l i))]) l.length ⟨0,by omega,by omega,rfl,rfl,rfl,by first | (rw [←hz]; done) | (rw [←hz]; rfl)⟩ ?_
 rintro m t S' ⟨i,rfl,hi,h0,h3,h4,rfl⟩
 refine wpV_of0 hDv ?_
 by_cases hil:i < l.length
 ·have hil':(i:Int) < l.length:=by omega
  have hg:=getD_evV hil
  have hp:=evsC_put (l:=pad ev0 l i) (i:=i) (l.getD i ev0) (by rw [pad_len hi]; exact hil)
  rw [pad_set hil] at hp
  have hfl:=evsC_len (pad ev0 l i)
  rw [pad_len hi] at hfl
  generalize l.getD i ev0=f at *
  generalize evsC (pad ev0 l i)=C at *
  simp -implicitDefEqProofs (maxSteps:=1000000) (disch:=omega) only [push_cast,simprocAttr,h0,h3,h4,hil',hg,↓gd]
  repeat refine And.intro (by omega) ?_
  refine ((toEvent_ok f _).as (by rfl)).to ?_
  have hp':splice C (i * 5) (evF f)=evsC (pad ev0 l (i+1)):=hp
  unfold evF at hp'
  simp -implicitDefEqProofs (maxSteps:=1000000) (disch:=omega) only [push_cast,simprocAttr,h0,h3,h4,hp',↓gd]
  repeat refine And.intro (by omega) ?_
  exact ⟨l.length - (i+1),by omega,i+1,rfl,by omega,by simp,by simp⟩
 ·have:i=l.length:=by omega
  subst this
  have hil':¬((l.length:Nat):Int) < l.length:=by omega
  simp -implicitDefEqProofs (maxSteps:=1000000) (disch:=omega) only [push_cast,simprocAttr,h0,h3,h4,hil',↓gd]
  rw [pad_all]
  exact ⟨_,_,Wk.refl _ _ _,rfl,rfl⟩
theorem evs_cells (l:List Ev):(l.map evV).flatMap V.cells=evsC l:=by rw [List.flatMap_map]; rfl
theorem evsC_all (l:List Ev):(evsC l).take (l.length * 5)=evsC l:=by rw [←evsC_len,List.take_length]
theorem cl_evs (n:Nat) (l:List Ev):Cl n (.rows none (l.map evV)):=by
 refine Cl.rows' (fun x hx=>?_)
 obtain ⟨y,_,rfl⟩:=List.mem_map.1 hx
 simp [evV,cl_agg,cl_int,cl_str]
theorem toEventS_R (l:List Ev) (hl:l.length≤2000000) (S:List Blk):VCall Tryz.prog 27 [.rows none (l.map evV)] S fun r S'=>r=.rows none (l.map evV)∧S'=S:=by
 refine VCall.wk ⟨_,Tryz.func27,rfl,rfl⟩ (toEventS_O l hl S) ?_
 rintro r S' ⟨rfl,rfl⟩
 have h3:=evsC_len l
 exact fin_freeze rfl rfl (by omega) (by simp) (by rw [evs_cells,evsC_all]) (cl_evs _ _) rfl
end
end Go.Proofs.YtldogccmhncnoaaGreatDoor
