/- A part of the proof: contracts of functions, or plain facts on which these lean. -/
import Derived.Test.YtmfamfjfnjckeaaGreatDoorNa26
import Derived.Test.YtmfamfjfnjckeaaGreatDoorNa32
namespace Go.Proofs.YtmfamfjfnjckeaaGreatDoor
open Go
set_option linter.unusedVariables false
set_option linter.unusedSimpArgs false
set_option maxRecDepth 100000
set_option maxHeartbeats 16000000

section
open Go
theorem do_ok {w:Wo} (hB:WoB w) (hc:endOk w.caller=true) (ha:endOk w.answerer=true) (v:Ev) (hv:EvB v) {S:List Blk} {b c d f:Nat} (h:WoAt S b c d f w):VCall Tryz.prog 27 [wV b c d f w,evV v] S fun r S'=>RWTo S b c d f (doM w v) r S'∧Upd [] S S':=by
 obtain ⟨n1,n2,n3,n4,n5,n6,n7,n8⟩:=h.nes
 have hup:=hB.up
 have hdn:=hB.down
 have hcon1:=fun X=>EndCall_ok hB.caller v.path v.text hv.1 hv.2 (h.caller.app X)
 have hcon2:=fun X=>EndLeave_ok hB.caller v.a (h.caller.app X)
 have hcon3:=fun X=>iwrite_ok hB.caller hc hup (h.caller.app X)
 have hcon4:=fun X=>iwrite_ok hB.answerer ha hdn (h.answerer.app X)
 have hcon5:=fun X=>ipass_ok hB.answerer ha hup v.b (h.answerer.app X)
 have hcon6:=fun X=>ipass_ok hB.caller hc hdn v.b (h.caller.app X)
 refine VCall.en hDe Tryz.func27 Tryz.ntmps27 Tryz.results27 ?_
 by_cases k1:v.kind=1
 ·rw [doM_kinds w v 1 k1,if_pos rfl]
  simp -implicitDefEqProofs (maxSteps:=1000000) (disch:=omega) only [push_cast,simprocAttr,k1,↓gd]
  refine ((hcon1 _).as (by simp [eV,enV,enC])).mono ?_
  rintro r S1 ⟨u,rfl,b1,c1,rfl,q1⟩
  have e1:endCallM w.caller v.path v.text=callM w.caller v.path v.text:=by rw [endCallM,if_neg (by rw [hc]; simp)]
  rw [e1] at q1 ⊢
  have q0:S1[S.length]?=some (.cells 0 (wC b c d f w)):=q1.upd.get (by simp -implicitDefEqProofs (maxSteps:=1000000) (disch:=omega) only [push_cast,simprocAttr,↓gd]) (by simp)
  have q2:S1[S.length+2]?=some (.cells 0 zW):=q1.upd.get (by simp -implicitDefEqProofs (maxSteps:=1000000) (disch:=omega) only [push_cast,simprocAttr,↓gd]) (by simp)
  have l0:=lt_of_some q0
  have l2:=lt_of_some q2
  have h0:=h.caller_to (q1.app.toTo b c)
  have hst:=WoTo.still h q1.app.upd
  have hu:=q1.app.upd
  have v0:=h0.at_.var q0
  have v2:=h0.at_.var q2
  have v2':=hst.at_.var q2
  have hfail:(callM w.caller v.path v.text).2.2=false→(callM w.caller v.path v.text).1=w.caller:=by
   unfold callM
   split
   ·exact fun _=>rfl
   ·exact fun q=>by cases q
  generalize callM w.caller v.path v.text=y at *
  obtain ⟨y,i,ok⟩:=y
  simp only at *
  cases ok
  ·have e:=hfail rfl
   subst e
   simp -implicitDefEqProofs (maxSteps:=1000000) (disch:=omega) only [push_cast,simprocAttr,q0,q2,k1,↓gd]
   exact ⟨_,_,Wk.refl _ _ _,⟨b,c,d,f,rfl,(hst.set (j:=S.length+2) _ (by omega) v2').appR _⟩,(hu.set _ (.inl (by omega))).app _⟩
  ·simp -implicitDefEqProofs (maxSteps:=1000000) (disch:=omega) only [push_cast,simprocAttr,q0,q2,k1,↓gd]
   exact ⟨_,_,Wk.refl _ _ _,⟨b1,c1,d,f,rfl,((h0.set (j:=S.length) _ (by omega) v0).set (j:=S.length+2) _ (by omega) v2).appR _⟩,((hu.set _ (.inl (by omega))).set _ (.inl (by omega))).app _⟩
 by_cases k2:v.kind=2
 ·rw [doM_kinds w v 2 k2,if_neg (by decide),if_pos rfl]
  simp -implicitDefEqProofs (maxSteps:=1000000) (disch:=omega) only [push_cast,simprocAttr,k1,k2,↓gd]
  refine ((hcon2 _).as (by simp [eV,enV,enC])).mono ?_
  rintro r S1 ⟨u,rfl,b1,c1,rfl,q1⟩
  have e1:endLeaveM w.caller v.a=leaveM w.caller v.a:=by rw [endLeaveM,if_neg (by rw [hc]; simp)]
  rw [e1] at q1 ⊢
  have q0:S1[S.length]?=some (.cells 0 (wC b c d f w)):=q1.upd.get (by simp -implicitDefEqProofs (maxSteps:=1000000) (disch:=omega) only [push_cast,simprocAttr,↓gd]) (by simp)
  have q2:S1[S.length+2]?=some (.cells 0 zW):=q1.upd.get (by simp -implicitDefEqProofs (maxSteps:=1000000) (disch:=omega) only [push_cast,simprocAttr,↓gd]) (by simp)
  have l0:=lt_of_some q0
  have l2:=lt_of_some q2
  have h0:=h.caller_to (q1.app.toTo b c)
  have hst:=WoTo.still h q1.app.upd
  have hu:=q1.app.upd
  have v0:=h0.at_.var q0
  have v2:=h0.at_.var q2
  have v2':=hst.at_.var q2
  have hfail:(leaveM w.caller v.a).2=false→(leaveM w.caller v.a).1=w.caller:=by
   unfold leaveM
   split
   ·exact fun _=>rfl
   ·split
    ·exact fun _=>rfl
    ·exact fun q=>by cases q
  generalize leaveM w.caller v.a=y at *
  obtain ⟨y,ok⟩:=y
  simp only at *
  cases ok
  ·have e:=hfail rfl
   subst e
   simp -implicitDefEqProofs (maxSteps:=1000000) (disch:=omega) only [push_cast,simprocAttr,q0,q2,k2,↓gd]
   exact ⟨_,_,Wk.refl _ _ _,⟨b,c,d,f,rfl,(hst.set (j:=S.length+2) _ (by omega) v2').appR _⟩,(hu.set _ (.inl (by omega))).app _⟩
  ·simp -implicitDefEqProofs (maxSteps:=1000000) (disch:=omega) only [push_cast,simprocAttr,q0,q2,k2,↓gd]
   exact ⟨_,_,Wk.refl _ _ _,⟨b1,c1,d,f,rfl,((h0.set (j:=S.length) _ (by omega) v0).set (j:=S.length+2) _ (by omega) v2).appR _⟩,((hu.set _ (.inl (by omega))).set _ (.inl (by omega))).app _⟩
 by_cases k3:v.kind=3
 ·rw [doM_kinds w v 3 k3,if_neg (by decide),if_neg (by decide),if_pos rfl]
  by_cases a0:v.a=0
  ·have hm:sayWM w v.a={ w with caller:=if w.caller.bad=false∧w.up.length+(writeM w.caller).2.length≤800 then (writeM w.caller).1 else w.caller,up:=if w.caller.bad=false∧w.up.length+(writeM w.caller).2.length≤800 then w.up++(writeM w.caller).2 else w.up }:=by
    rw [sayWM,if_pos a0]
    split <;> rfl
   rw [hm]
   simp -implicitDefEqProofs (maxSteps:=1000000) (disch:=omega) only [push_cast,simprocAttr,k1,k2,k3,a0,↓gd]
   refine ((hcon3 _).as (by simp [eV,enV,enC])).mono ?_
   rintro r S1 ⟨u,rfl,⟨b1,c1,rfl,q1⟩,hu1⟩
   have hu:Upd [] S S1:=((Upd.refl [] S).app _).trans hu1
   have q0:S1[S.length]?=some (.cells 0 (wC b c d f w)):=q1.upd.get (by simp -implicitDefEqProofs (maxSteps:=1000000) (disch:=omega) only [push_cast,simprocAttr,↓gd]) (by simp; omega)
   have q2:S1[S.length+2]?=some (.cells 0 zW):=q1.upd.get (by simp -implicitDefEqProofs (maxSteps:=1000000) (disch:=omega) only [push_cast,simprocAttr,↓gd]) (by simp; omega)
   have l0:=lt_of_some q0
   have l2:=lt_of_some q2
   have h0:=h.caller_to q1.app
   have v0:=h0.at_.var q0
   have v2:=h0.at_.var q2
   generalize (if w.caller.bad=false∧w.up.length+(writeM w.caller).2.length≤800 then (writeM w.caller).1 else w.caller)=y at *
   generalize (if w.caller.bad=false∧w.up.length+(writeM w.caller).2.length≤800 then w.up++(writeM w.caller).2 else w.up)=o at *
   have h1:=h0.withUp o w.down
   simp -implicitDefEqProofs (maxSteps:=1000000) (disch:=omega) only [push_cast,simprocAttr,q0,q2,k3,↓gd]
   exact ⟨_,_,Wk.refl _ _ _,⟨b1,c1,d,f,rfl,((h1.set (j:=S.length) _ (by omega) v0).set (j:=S.length+2) _ (by omega) v2)⟩,(hu.set _ (.inl (by omega))).set _ (.inl (by omega))⟩
  ·by_cases a1:v.a=1
   ·have hm:sayWM w v.a={ w with answerer:=if w.answerer.bad=false∧w.down.length+(writeM w.answerer).2.length≤800 then (writeM w.answerer).1 else w.answerer,down:=if w.answerer.bad=false∧w.down.length+(writeM w.answerer).2.length≤800 then w.down++(writeM w.answerer).2 else w.down }:=by
     rw [sayWM,if_neg a0,if_pos a1]
     split <;> rfl
    rw [hm]
    simp -implicitDefEqProofs (maxSteps:=1000000) (disch:=omega) only [push_cast,simprocAttr,k1,k2,k3,a0,a1,↓gd]
    refine ((hcon4 _).as (by simp [eV,enV,enC])).mono ?_
    rintro r S1 ⟨u,rfl,⟨d1,f1,rfl,q1⟩,hu1⟩
    have hu:Upd [] S S1:=((Upd.refl [] S).app _).trans hu1
    have q0:S1[S.length]?=some (.cells 0 (wC b c d f w)):=q1.upd.get (by simp -implicitDefEqProofs (maxSteps:=1000000) (disch:=omega) only [push_cast,simprocAttr,↓gd]) (by simp; omega)
    have q2:S1[S.length+2]?=some (.cells 0 zW):=q1.upd.get (by simp -implicitDefEqProofs (maxSteps:=1000000) (disch:=omega) only [push_cast,simprocAttr,↓gd]) (by simp; omega)
    have l0:=lt_of_some q0
    have l2:=lt_of_some q2
    have h0:=h.answerer_to q1.app
    have v0:=h0.at_.var q0
    have v2:=h0.at_.var q2
    generalize (if w.answerer.bad=false∧w.down.length+(writeM w.answerer).2.length≤800 then (writeM w.answerer).1 else w.answerer)=y at *
    generalize (if w.answerer.bad=false∧w.down.length+(writeM w.answerer).2.length≤800 then w.down++(writeM w.answerer).2 else w.down)=o at *
    have h1:=h0.withUp w.up o
    simp -implicitDefEqProofs (maxSteps:=1000000) (disch:=omega) only [push_cast,simprocAttr,q0,q2,k3,↓gd]
    exact ⟨_,_,Wk.refl _ _ _,⟨b,c,d1,f1,rfl,((h1.set (j:=S.length) _ (by omega) v0).set (j:=S.length+2) _ (by omega) v2)⟩,(hu.set _ (.inl (by omega))).set _ (.inl (by omega))⟩
   ·have hm:sayWM w v.a=w:=by rw [sayWM,if_neg a0,if_neg a1]
    rw [hm]
    simp -implicitDefEqProofs (maxSteps:=1000000) (disch:=omega) only [push_cast,simprocAttr,k1,k2,k3,a0,a1,↓gd]
    exact ⟨_,_,Wk.refl _ _ _,⟨b,c,d,f,rfl,.stay h⟩,(Upd.refl _ _).app _⟩
 by_cases k4:v.kind=4
 ·rw [doM_kinds w v 4 k4,if_neg (by decide),if_neg (by decide),if_neg (by decide),if_pos rfl]
  by_cases a0:v.a=0
  ·have hm:passM w v.a v.b={ w with answerer:=if 0≤v.b∧v.b≤90 then hearWM w.answerer (w.up.take v.b.toNat) else w.answerer,up:=if 0≤v.b∧v.b≤90 then w.up.drop v.b.toNat else w.up }:=by
    rw [passM]
    by_cases q:0≤v.b∧v.b≤90
    ·simp only [if_pos q,if_pos a0]
    ·simp only [if_neg q]
   rw [hm]
   simp -implicitDefEqProofs (maxSteps:=1000000) (disch:=omega) only [push_cast,simprocAttr,k1,k2,k3,k4,a0,↓gd]
   refine ((hcon5 _).as (by simp [eV,enV,enC])).mono ?_
   rintro r S1 ⟨u,rfl,⟨d1,f1,rfl,q1⟩,hu1⟩
   have hu:Upd [] S S1:=((Upd.refl [] S).app _).trans hu1
   have q0:S1[S.length]?=some (.cells 0 (wC b c d f w)):=q1.upd.get (by simp -implicitDefEqProofs (maxSteps:=1000000) (disch:=omega) only [push_cast,simprocAttr,↓gd]) (by simp; omega)
   have q2:S1[S.length+2]?=some (.cells 0 zW):=q1.upd.get (by simp -implicitDefEqProofs (maxSteps:=1000000) (disch:=omega) only [push_cast,simprocAttr,↓gd]) (by simp; omega)
   have l0:=lt_of_some q0
   have l2:=lt_of_some q2
   have h0:=h.answerer_to q1.app
   have v0:=h0.at_.var q0
   have v2:=h0.at_.var q2
   generalize (if 0≤v.b∧v.b≤90 then hearWM w.answerer (w.up.take v.b.toNat) else w.answerer)=y at *
   generalize (if 0≤v.b∧v.b≤90 then w.up.drop v.b.toNat else w.up)=o at *
   have h1:=h0.withUp o w.down
   simp -implicitDefEqProofs (maxSteps:=1000000) (disch:=omega) only [push_cast,simprocAttr,q0,q2,k4,↓gd]
   exact ⟨_,_,Wk.refl _ _ _,⟨b,c,d1,f1,rfl,((h1.set (j:=S.length) _ (by omega) v0).set (j:=S.length+2) _ (by omega) v2)⟩,(hu.set _ (.inl (by omega))).set _ (.inl (by omega))⟩
  ·by_cases a1:v.a=1
   ·have hm:passM w v.a v.b={ w with caller:=if 0≤v.b∧v.b≤90 then hearWM w.caller (w.down.take v.b.toNat) else w.caller,down:=if 0≤v.b∧v.b≤90 then w.down.drop v.b.toNat else w.down }:=by
     rw [passM]
     by_cases q:0≤v.b∧v.b≤90
     ·simp only [if_pos q,if_neg a0,if_pos a1]
     ·simp only [if_neg q]
    rw [hm]
    simp -implicitDefEqProofs (maxSteps:=1000000) (disch:=omega) only [push_cast,simprocAttr,k1,k2,k3,k4,a0,a1,↓gd]
    refine ((hcon6 _).as (by simp [eV,enV,enC])).mono ?_
    rintro r S1 ⟨u,rfl,⟨b1,c1,rfl,q1⟩,hu1⟩
    have hu:Upd [] S S1:=((Upd.refl [] S).app _).trans hu1
    have q0:S1[S.length]?=some (.cells 0 (wC b c d f w)):=q1.upd.get (by simp -implicitDefEqProofs (maxSteps:=1000000) (disch:=omega) only [push_cast,simprocAttr,↓gd]) (by simp; omega)
    have q2:S1[S.length+2]?=some (.cells 0 zW):=q1.upd.get (by simp -implicitDefEqProofs (maxSteps:=1000000) (disch:=omega) only [push_cast,simprocAttr,↓gd]) (by simp; omega)
    have l0:=lt_of_some q0
    have l2:=lt_of_some q2
    have h0:=h.caller_to q1.app
    have v0:=h0.at_.var q0
    have v2:=h0.at_.var q2
    generalize (if 0≤v.b∧v.b≤90 then hearWM w.caller (w.down.take v.b.toNat) else w.caller)=y at *
    generalize (if 0≤v.b∧v.b≤90 then w.down.drop v.b.toNat else w.down)=o at *
    have h1:=h0.withUp w.up o
    simp -implicitDefEqProofs (maxSteps:=1000000) (disch:=omega) only [push_cast,simprocAttr,q0,q2,k4,↓gd]
    exact ⟨_,_,Wk.refl _ _ _,⟨b1,c1,d,f,rfl,((h1.set (j:=S.length) _ (by omega) v0).set (j:=S.length+2) _ (by omega) v2)⟩,(hu.set _ (.inl (by omega))).set _ (.inl (by omega))⟩
   ·have hm:passM w v.a v.b=w:=by
     rw [passM]
     by_cases q:0≤v.b∧v.b≤90
     ·simp only [if_pos q,if_neg a0,if_neg a1]
     ·simp only [if_neg q]
    rw [hm]
    simp -implicitDefEqProofs (maxSteps:=1000000) (disch:=omega) only [push_cast,simprocAttr,k1,k2,k3,k4,a0,a1,↓gd]
    exact ⟨_,_,Wk.refl _ _ _,⟨b,c,d,f,rfl,.stay h⟩,(Upd.refl _ _).app _⟩
 rw [doM_kinds w v v.kind rfl,if_neg k1,if_neg k2,if_neg k3,if_neg k4]
 simp -implicitDefEqProofs (maxSteps:=1000000) (disch:=omega) only [push_cast,simprocAttr,k1,k2,k3,k4,↓gd]
 exact ⟨_,_,Wk.refl _ _ _,⟨b,c,d,f,rfl,.stay h⟩,(Upd.refl _ _).app _⟩
theorem woOk_parts {w:Wo} (h:woOk w=true):endOk w.caller=true∧endOk w.answerer=true:=by
 simp only [woOk,Bool.and_eq_true] at h
 exact ⟨by simp_all,by simp_all⟩
theorem WorldDo_ok {w:Wo} (hB:WoB w) (v:Ev) (hv:EvB v) {S:List Blk} {b c d f:Nat} (h:WoAt S b c d f w):VCall Tryz.prog 13 [wV b c d f w,evV v] S fun r S'=>RWNew S (worldDoM w v) r S':=by
 have hok:=fun X=>WorldOk_ok hB (h.app X)
 refine VCall.en hDe Tryz.func13 Tryz.ntmps13 Tryz.results13 ?_
 simp -implicitDefEqProofs (maxSteps:=1000000) (disch:=omega) only [push_cast,simprocAttr,↓gd]
 refine ((hok _).as (by simp [wV,wC,enC])).to ?_
 cases hE:woOk w
 ·rw [worldDoM,if_pos hE]
  simp -implicitDefEqProofs (maxSteps:=1000000) (disch:=omega) only [push_cast,simprocAttr,↓gd]
  exact RWNew.zero
 ·rw [worldDoM,if_neg (by rw [hE]; simp)]
  have hp:=woOk_parts hE
  have hdo:=fun X=>do_ok hB hp.1 hp.2 v hv (h.app X)
  have hW:=doM_w (woOk_w hE |>.mono (show 60≤642 by decide)) (by decide) v
  simp -implicitDefEqProofs (maxSteps:=1000000) (disch:=omega) only [push_cast,simprocAttr,↓gd]
  refine ((hdo _).as (by simp [wV,wC,enC,evV])).mono ?_
  rintro r S1 ⟨⟨b1,c1,d1,f1,rfl,q1⟩,hu1⟩
  have hu:Upd [] S S1:=((Upd.refl [] S).app _).trans hu1
  have k0:S1[S.length]?=some (.cells 0 (wC b c d f w)):=q1.upd.get (by simp -implicitDefEqProofs (maxSteps:=1000000) (disch:=omega) only [push_cast,simprocAttr,↓gd]) (by simp; have:=h.nes; omega)
  have k2:S1[S.length+2]?=some (.cells 0 zW):=q1.upd.get (by simp -implicitDefEqProofs (maxSteps:=1000000) (disch:=omega) only [push_cast,simprocAttr,↓gd]) (by simp; have:=h.nes; omega)
  have k0':=k0
  have k1:S1[S.length+1]?=some (.cells 0 [.int .i64 v.kind,.int .i64 v.a,.int .i64 v.b,.str v.path,.str v.text]):=q1.upd.get (by simp -implicitDefEqProofs (maxSteps:=1000000) (disch:=omega) only [push_cast,simprocAttr,↓gd]) (by simp; have:=h.nes; omega)
  have l2:=lt_of_some k2
  have hy:=hW.b (by decide)
  have hat:=q1.at_
  generalize doM w v=y at *
  simp -implicitDefEqProofs (maxSteps:=1000000) (disch:=omega) only [push_cast,simprocAttr,k0,k1,k2,↓gd]
  refine ((wclone_ok hy hat).as (by simp [wV,wC,enC])).mono ?_
  rintro r S2 ⟨b2,c2,d2,f2,rfl,q2⟩
  have k2':=q2.upd.get k2 (by simp)
  have l2':=lt_of_some k2'
  have v2:=q2.at_.var k2'
  have e1:=q2.hb; have e2:=q2.hc; have e3:=q2.hd; have e4:=q2.hf
  have e5:=q1.upd.1
  simp at e5
  simp -implicitDefEqProofs (maxSteps:=1000000) (disch:=omega) only [push_cast,simprocAttr,k2',↓gd]
  exact ⟨_,_,Wk.refl _ _ _,b2,c2,d2,f2,rfl,⟨q2.at_.set _ v2,by omega,by omega,by omega,by omega,(hu.trans q2.upd).set _ (.inl (by omega))⟩⟩
end
section
open Go
theorem WorldPlay_ok (l:List Ev) (hl:l.length≤1000000) (hv:∀v ∈ l,EvB v) (hoks:l.length≤60→∀i,i≤l.length→endOk (playM (l.take i)).caller=true∧endOk (playM (l.take i)).answerer=true) (S:List Blk) :
  VCall Tryz.prog 10 [.rows none (l.map evV)] S fun r S'=>∃u,r=.tup [u,.bool (worldPlayM l).2]∧RWNew S (worldPlayM l).1 u S':=by
 refine VCall.en hDe Tryz.func10 Tryz.ntmps10 Tryz.results10 ?_
 by_cases h60:(l.length:Int) > 60
 ·rw [worldPlayM,if_pos (by omega)]
  simp -implicitDefEqProofs (disch:=omega) only [push_cast,simprocAttr,h60,↓gd]
  obtain ⟨r,S2,h1,h2⟩:=RWNew.zero (S:=S) (X:=[.cells 0 zW])
  exact ⟨_,S2,h1.fst (xs:=[.bool false]) (by simp [Plain]),r,rfl,h2⟩
 ·rw [worldPlayM,if_neg (by omega)]
  have hoks:=hoks (by omega)
  simp -implicitDefEqProofs (disch:=omega) only [push_cast,simprocAttr,h60,↓gd]
  refine (WorldNew_ok _).mono ?_
  rintro r S1 ⟨b,c,d,f,rfl,q1⟩
  have k0:S1[S.length]?=some (.cells 0 zW):=q1.upd.get (by simp -implicitDefEqProofs (disch:=omega) only [push_cast,simprocAttr,↓gd]) (by simp)
  have e0:=q1.hb; have e1:=q1.hc; have e2:=q1.hd; have e3:=q1.hf
  simp at e0 e1 e2 e3
  have hS1:=lt_of_some k0
  simp -implicitDefEqProofs (disch:=omega) only [push_cast,simprocAttr,k0,↓gd]
  refine wpV_loop (fun m t S2=>∃(i b c d f:Nat),m=l.length - i∧i≤l.length∧t 2=.ptr S.length 0∧t 4=.ptr S1.length 0∧t 12=.rows none (l.map evV)∧t 13=.int .i64 l.length∧t 14=.int .i64 i ∧
   S2[S1.length]?=some (.cells 0 (wC b c d f (playM (l.take i))))∧S2[S.length]?=some (.cells 0 zW)∧WoNew S (playM (l.take i)) b c d f S2) l.length
   ⟨0,b,c,d,f,by omega,by omega,rfl,rfl,rfl,rfl,rfl,by simp -implicitDefEqProofs (disch:=omega) only [push_cast,simprocAttr,↓gd]; rfl,by simp -implicitDefEqProofs (disch:=omega) only [push_cast,simprocAttr,k0,↓gd],q1.app.appR _⟩ ?_
  rintro m t S2 ⟨i,b1,c1,d1,f1,rfl,hi,h2,h4,h12,h13,h14,k1,k0,q2⟩
  have l0:=lt_of_some k0
  have l1:=lt_of_some k1
  have hW:=playM_w (l.take i)
  have hti:(l.take i).length=i:=by simp; omega
  refine wpV_of0 hDe ?_
  simp -implicitDefEqProofs (disch:=omega) only [push_cast,simprocAttr,h2,h4,h12,h13,h14,k0,k1,↓gd]
  refine ⟨fun h=>?_,fun h=>?_⟩
  ·have hil:i < l.length:=by omega
   have hgd:=getD_evV hil
   have hst:=playM_take ev0 hil
   have hvb:EvB (l.getD i ev0):=hv _ (by rw [getD_lt ev0 hil]; exact List.getElem_mem hil)
   have hoki:=hoks i hi
   generalize l.getD i ev0=v at *
   have hB:=hW.b (by omega)
   generalize playM (l.take i)=w at *
   simp -implicitDefEqProofs (disch:=omega) only [push_cast,simprocAttr,h2,h4,h12,h13,h14,k0,k1,hgd,evs_len5,↓gd]
   repeat refine And.intro (by omega) ?_
   refine ((do_ok hB hoki.1 hoki.2 v hvb (q2.at_.app _)).as (by simp [wV,wC,enC,evV])).mono ?_
   rintro r S3 ⟨⟨b2,c2,d2,f2,rfl,q3⟩,hu3⟩
   have v0:=q2.at_.var k0
   have v1:=q2.at_.var k1
   have k0':=hu3.get (j:=S.length) (B:=.cells 0 zW) (by simp -implicitDefEqProofs (disch:=omega) only [push_cast,simprocAttr,k0,↓gd]) (by simp)
   have k1':=hu3.get (j:=S1.length) (B:=.cells 0 (wC b1 c1 d1 f1 w)) (by simp -implicitDefEqProofs (disch:=omega) only [push_cast,simprocAttr,k1,↓gd]) (by simp)
   have l1':=lt_of_some k1'
   have hn:=q2.to q3.app
   have v1':=hn.at_.var k1'
   rw [←hst] at hn
   rw [←hst]
   generalize doM w v=y at *
   simp -implicitDefEqProofs (disch:=omega) only [push_cast,simprocAttr,h2,h4,h12,h13,h14,k0',k1',↓gd]
   exact ⟨l.length - (i+1),by omega,i+1,b2,c2,d2,f2,rfl,by omega,by simp,rfl,hn.set (j:=S1.length) _ (by omega) v1'⟩
  ·have:i=l.length:=by omega
   subst this
   rw [List.take_length] at *
   have hB:=hW.b (by omega)
   have hat:=q2.at_
   generalize playM l=w at *
   refine ((wclone_ok hB hat).as (by simp [wV,wC,enC])).mono ?_
   rintro r S3 ⟨b2,c2,d2,f2,rfl,q3⟩
   have k0':=q3.upd.get k0 (by simp)
   have v2:=q3.at_.var k0'
   have l0':=lt_of_some k0'
   have e1:=q3.hb; have e2:=q3.hc; have e3:=q3.hd; have e4:=q3.hf
   simp -implicitDefEqProofs (disch:=omega) only [push_cast,simprocAttr,h2,k0',↓gd]
   exact ⟨_,_,Wk.refl _ _ _,_,rfl,b2,c2,d2,f2,rfl,⟨q3.at_.set _ v2,by omega,by omega,by omega,by omega,(q2.upd.trans q3.upd).set _ (.inl (by omega))⟩⟩
end
section
open Go
def headGetM (h:List Fd) (name:List UInt8):List UInt8 × Bool:=if headOk h then getM h name else ([],false)
def splitM:Nat→List UInt8→List Fr
 | 0,_=>[]
 | n+1,b=>if (frR b).2.2=1 then (frR b).1 :: splitM n (b.drop (frR b).2.1) else []
def wireM (w:Wo) (way:Int):List UInt8:=if way=1 then w.caller.came++w.down else w.answerer.came++w.up
def worldFramesM (w:Wo) (way:Int):List Fr:=if woOk w=true∧0≤way∧way≤1 then splitM (wireM w way).length (wireM w way) else []
theorem splitM_succ:∀(n:Nat) (b:List UInt8),b.length≤n→splitM (n+1) b=splitM n b
 | 0,b,h=>by
  have:b=[]:=List.length_eq_zero_iff.1 (by omega)
  subst this
  simp [splitM,frR]
 | n+1,b,h=>by
  show (if (frR b).2.2=1 then (frR b).1 :: splitM (n+1) (b.drop (frR b).2.1) else [])=if (frR b).2.2=1 then (frR b).1 :: splitM n (b.drop (frR b).2.1) else []
  by_cases h1:(frR b).2.2=1
  ·have:=frR_some (b:=b) (by omega)
   rw [if_pos h1,if_pos h1,splitM_succ n (b.drop (frR b).2.1) (by rw [List.length_drop]; omega)]
  ·rw [if_neg h1,if_neg h1]
theorem splitM_more:∀(k n:Nat) (b:List UInt8),b.length≤n→splitM (n+k) b=splitM n b
 | 0,n,b,_=>rfl
 | k+1,n,b,h=>by rw [←Nat.add_assoc,splitM_succ _ _ (by omega),splitM_more k n b h]
def splitA (b:List UInt8):List Fr:=splitM b.length b
theorem splitA_eq (b:List UInt8):splitA b=if (frR b).2.2=1 then (frR b).1 :: splitA (b.drop (frR b).2.1) else []:=by
 unfold splitA
 cases hb:b.length with
 | zero =>
  have:b=[]:=List.length_eq_zero_iff.1 hb
  subst this
  simp [splitM,frR]
 | succ n =>
  rw [splitM]
  split
  ·rename_i h1
   have:=frR_some (b:=b) (by omega)
   obtain ⟨k,hk⟩:∃k,n=(b.drop (frR b).2.1).length+k:=⟨n - (b.drop (frR b).2.1).length,by rw [List.length_drop]; omega⟩
   rw [hk,splitM_more k _ _ (Nat.le_refl _)]
  ·rfl
theorem HeadGet_ok (h:List Fd) (hl:FdsB h) (name:List UInt8) (S:List Blk):VCall Tryz.prog 17 [.rows none (h.map fV),.str name] S fun r S'=>r=.tup [.str (headGetM h name).1,.bool (headGetM h name).2]∧S'=S:=by
 refine VCall.en hD Tryz.func17 Tryz.ntmps17 Tryz.results17 ?_
 simp -implicitDefEqProofs (disch:=omega) only [push_cast,simprocAttr,↓gd]
 refine ((HeadOk_ok h hl _).as rfl).to ?_
 cases hE:headOk h
 ·simp -implicitDefEqProofs (disch:=omega) only [push_cast,simprocAttr,↓gd]
  exact fin0 (by simp [headGetM,hE])
 ·simp -implicitDefEqProofs (disch:=omega) only [push_cast,simprocAttr,↓gd]
  refine ((get_ok h hl name _).as rfl).to ?_
  simp -implicitDefEqProofs (disch:=omega) only [push_cast,simprocAttr,↓gd]
  exact fin0 (by simp [headGetM,hE])
def FrsNew (S:List Blk) (l:List Fr) (v:V) (S':List Blk):Prop:=∃q,v=.heap q l.length∧S'[q]?=some (.cells 4 (frmsC l))∧S.length≤q∧Upd [] S S'
theorem FrsNew.nil {S X:List Blk}:∃r S2,Wk S .nils (S++X) r S2∧FrsNew S [] r S2 :=
 ⟨_,_,Wk.nh 4 .nil,(S++X).length,rfl,by rw [List.getElem?_append_right (Nat.le_refl _),Nat.sub_self]; rfl,by simp,((Upd.refl _ _).app _).app _⟩
theorem FrsNew.nil2 {S S2:List Blk} (hu:Upd [] S S2):∃r S3,Wk S .nils S2 r S3∧FrsNew S [] r S3 :=
 ⟨_,_,Wk.nh 4 .nil,S2.length,rfl,by rw [List.getElem?_append_right (Nat.le_refl _),Nat.sub_self]; rfl,hu.1,hu.app _⟩
theorem WorldFrames_ok {w:Wo} (hB:WoB w) (way:Int) {S:List Blk} {b c d f:Nat} (h:WoAt S b c d f w):VCall Tryz.prog 19 [wV b c d f w,.int .i64 way] S fun r S'=>FrsNew S (worldFramesM w way) r S':=by
 have hok:=fun X=>WorldOk_ok hB (h.app X)
 refine VCall.en hDe Tryz.func19 Tryz.ntmps19 Tryz.results19 ?_
 simp -implicitDefEqProofs (disch:=omega) only [push_cast,simprocAttr,↓gd]
 refine ((hok _).as (by simp [wV,wC,enC])).to ?_
 cases hE:woOk w
 ·rw [worldFramesM,if_neg (by rw [hE]; simp)]
  simp -implicitDefEqProofs (disch:=omega) only [push_cast,simprocAttr,↓gd]
  exact FrsNew.nil
 ·by_cases hin:0≤way∧way≤1
  ·have hW:=woOk_w hE
   have hm:worldFramesM w way=splitA (wireM w way):=by rw [worldFramesM,if_pos ⟨hE,hin⟩]; rfl
   rw [hm]
   have q1:=hW.up; have q2:=hW.down; have q3:=hW.caller.came; have q4:=hW.answerer.came
   have hwl:(wireM w way).length≤10000:=by rw [wireM]; split <;> rw [List.length_append] <;> omega
   simp -implicitDefEqProofs (disch:=omega) only [push_cast,simprocAttr,↓gd]
   refine (in_t hin _).to ?_
   by_cases hw1:way=1
   ·have hw1':=eq_true hw1
    have hwm:wireM w way=w.caller.came++w.down:=by rw [wireM,if_pos hw1]
    simp -implicitDefEqProofs (disch:=omega) only [push_cast,simprocAttr,hw1',↓gd]
    repeat refine And.intro (by omega) ?_
    refine wpV_loop (fun m t S2=>∃(bs:List UInt8) (L:List Fr),m=bs.length∧bs.length+L.length≤10000∧splitA (wireM w way)=L++splitA bs∧t 5=.str bs∧Upd [] S S2∧((t 6=.nils∧L=[])∨∃q,t 6=.heap q L.length∧S2[q]?=some (.cells 4 (frmsC L))∧S.length≤q)) (wireM w way).length
     ⟨wireM w way,[],rfl,by simp; omega,rfl,by rw [hwm]; rfl,(Upd.refl _ _).app _,.inl ⟨rfl,rfl⟩⟩ ?_
    rintro m t S2 ⟨bs,L,rfl,hbl,hsp,h5,hup,h6⟩
    refine wpV_of0 hDe ?_
    rw [splitA_eq bs] at hsp
    simp -implicitDefEqProofs (disch:=omega) only [push_cast,simprocAttr,h5,↓gd]
    refine (FrameRead_ok bs (by omega) _).to ?_
    generalize hfr:frR bs=z at hsp ⊢
    obtain ⟨fr,k,is⟩:=z
    simp only at hsp ⊢
    by_cases h1:is=1
    ·have hsm:=frR_some (b:=bs) (by rw [hfr]; simp [h1])
     rw [hfr] at hsm
     simp only at hsm
     rw [if_pos h1] at hsp
     have hfl:=frmsC_len L
     rcases h6 with ⟨h6,rfl⟩ | ⟨q,h6,hq,hql⟩
     ·simp -implicitDefEqProofs (disch:=omega) only [push_cast,simprocAttr,h5,h6,h1,↓gd]
      repeat refine And.intro (by omega) ?_
      exact ⟨(bs.drop k).length,by rw [List.length_drop]; omega,bs.drop k,[fr],rfl,by simp; omega,by rw [hsp]; rfl,by rw [List.take_length],hup.app _,S2.length+2,rfl,by simp -implicitDefEqProofs (disch:=omega) only [push_cast,simprocAttr,↓gd]; rfl,by have:=hup.1; omega⟩
     ·have lq:=lt_of_some hq
      simp -implicitDefEqProofs (disch:=omega) only [push_cast,simprocAttr,h5,h6,h1,hq,↓gd]
      repeat refine And.intro (by omega) ?_
      exact ⟨(bs.drop k).length,by rw [List.length_drop]; omega,bs.drop k,L++[fr],rfl,by simp; omega,by rw [hsp,List.append_assoc]; rfl,by rw [List.take_length],(hup.set _ (.inl hql)).app _,S2.length+2,by simp,by rw [frmsC_app,frmsC_one]; simp -implicitDefEqProofs (disch:=omega) only [push_cast,simprocAttr,↓gd],by have:=hup.1; omega⟩
    ·rw [if_neg h1] at hsp
     rw [hsp,List.append_nil]
     rcases h6 with ⟨h6,rfl⟩ | ⟨q,h6,hq,hql⟩
     ·simp -implicitDefEqProofs (disch:=omega) only [push_cast,simprocAttr,h5,h6,h1,↓gd]
      exact FrsNew.nil2 (hup.app _)
     ·simp -implicitDefEqProofs (disch:=omega) only [push_cast,simprocAttr,h5,h6,h1,↓gd]
      exact ⟨_,_,Wk.refl _ _ _,q,rfl,by rw [List.getElem?_append_left (lt_of_some hq)]; exact hq,hql,hup.app _⟩
   ·have hwm:wireM w way=w.answerer.came++w.up:=by rw [wireM,if_neg hw1]
    simp -implicitDefEqProofs (disch:=omega) only [push_cast,simprocAttr,hw1,↓gd]
    repeat refine And.intro (by omega) ?_
    refine wpV_loop (fun m t S2=>∃(bs:List UInt8) (L:List Fr),m=bs.length∧bs.length+L.length≤10000∧splitA (wireM w way)=L++splitA bs∧t 5=.str bs∧Upd [] S S2∧((t 6=.nils∧L=[])∨∃q,t 6=.heap q L.length∧S2[q]?=some (.cells 4 (frmsC L))∧S.length≤q)) (wireM w way).length
     ⟨wireM w way,[],rfl,by simp; omega,rfl,by rw [hwm]; rfl,(Upd.refl _ _).app _,.inl ⟨rfl,rfl⟩⟩ ?_
    rintro m t S2 ⟨bs,L,rfl,hbl,hsp,h5,hup,h6⟩
    refine wpV_of0 hDe ?_
    rw [splitA_eq bs] at hsp
    simp -implicitDefEqProofs (disch:=omega) only [push_cast,simprocAttr,h5,↓gd]
    refine (FrameRead_ok bs (by omega) _).to ?_
    generalize hfr:frR bs=z at hsp ⊢
    obtain ⟨fr,k,is⟩:=z
    simp only at hsp ⊢
    by_cases h1:is=1
    ·have hsm:=frR_some (b:=bs) (by rw [hfr]; simp [h1])
     rw [hfr] at hsm
     simp only at hsm
     rw [if_pos h1] at hsp
     have hfl:=frmsC_len L
     rcases h6 with ⟨h6,rfl⟩ | ⟨q,h6,hq,hql⟩
     ·simp -implicitDefEqProofs (disch:=omega) only [push_cast,simprocAttr,h5,h6,h1,↓gd]
      repeat refine And.intro (by omega) ?_
      exact ⟨(bs.drop k).length,by rw [List.length_drop]; omega,bs.drop k,[fr],rfl,by simp; omega,by rw [hsp]; rfl,by rw [List.take_length],hup.app _,S2.length+2,rfl,by simp -implicitDefEqProofs (disch:=omega) only [push_cast,simprocAttr,↓gd]; rfl,by have:=hup.1; omega⟩
     ·have lq:=lt_of_some hq
      simp -implicitDefEqProofs (disch:=omega) only [push_cast,simprocAttr,h5,h6,h1,hq,↓gd]
      repeat refine And.intro (by omega) ?_
      exact ⟨(bs.drop k).length,by rw [List.length_drop]; omega,bs.drop k,L++[fr],rfl,by simp; omega,by rw [hsp,List.append_assoc]; rfl,by rw [List.take_length],(hup.set _ (.inl hql)).app _,S2.length+2,by simp,by rw [frmsC_app,frmsC_one]; simp -implicitDefEqProofs (disch:=omega) only [push_cast,simprocAttr,↓gd],by have:=hup.1; omega⟩
    ·rw [if_neg h1] at hsp
     rw [hsp,List.append_nil]
     rcases h6 with ⟨h6,rfl⟩ | ⟨q,h6,hq,hql⟩
     ·simp -implicitDefEqProofs (disch:=omega) only [push_cast,simprocAttr,h5,h6,h1,↓gd]
      exact FrsNew.nil2 (hup.app _)
     ·simp -implicitDefEqProofs (disch:=omega) only [push_cast,simprocAttr,h5,h6,h1,↓gd]
      exact ⟨_,_,Wk.refl _ _ _,q,rfl,by rw [List.getElem?_append_left (lt_of_some hq)]; exact hq,hql,hup.app _⟩
  ·rw [worldFramesM,if_neg (fun q=>hin q.2)]
   simp -implicitDefEqProofs (disch:=omega) only [push_cast,simprocAttr,↓gd]
   refine (in_f hin _).to ?_
   simp -implicitDefEqProofs (disch:=omega) only [push_cast,simprocAttr,↓gd]
   exact FrsNew.nil
end
end Go.Proofs.YtmfamfjfnjckeaaGreatDoor
