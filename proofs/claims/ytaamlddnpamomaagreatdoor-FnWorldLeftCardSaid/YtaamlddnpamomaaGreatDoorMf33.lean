/- A part of the proof: contracts of functions, or plain facts on which these lean. -/
import Derived.Test.YtaamlddnpamomaaGreatDoorMf26
import Derived.Test.YtaamlddnpamomaaGreatDoorMf32
namespace Go.Proofs.YtaamlddnpamomaaGreatDoor
open Go
set_option linter.unusedVariables false
set_option linter.unusedSimpArgs false
set_option maxRecDepth 100000
set_option maxHeartbeats 16000000

section
open Go
theorem do_ok {w:Wo} (hB:WoB w) (hc:endOk w.caller=true) (ha:endOk w.answerer=true) (v:Ev) (hv:EvB v) {S:List Blk} {b c d f:Nat} (h:WoAt S b c d f w):VCall Tryz.prog 78 [wV b c d f w,evV v] S fun r S'=>RWTo S b c d f (doM w v) r S'∧Upd [] S S':=by
 obtain ⟨n1,n2,n3,n4,n5,n6,n7,n8⟩:=h.nes
 have hup:=hB.up
 have hdn:=hB.down
 have hcon1:=fun X=>EndCall_ok hB.caller v.path v.text hv.1 hv.2 (h.caller.app X)
 have hcon2:=fun X=>EndLeave_ok hB.caller v.a (h.caller.app X)
 have hcon3:=fun X=>iwrite_ok hB.caller hc hup (h.caller.app X)
 have hcon4:=fun X=>iwrite_ok hB.answerer ha hdn (h.answerer.app X)
 have hcon5:=fun X=>ipass_ok hB.answerer ha hup v.b (h.answerer.app X)
 have hcon6:=fun X=>ipass_ok hB.caller hc hdn v.b (h.caller.app X)
 refine VCall.en hDe Tryz.func78 Tryz.ntmps78 Tryz.results78 ?_
 by_cases k1:v.kind=1
 ·rw [doM_kinds w v 1 k1,if_pos rfl]
  simp -implicitDefEqProofs (maxSteps:=1000000) (disch:=omega) only [push_cast,simprocAttr,k1,↓gd]
  refine ((hcon1 _).as (by simp [eV,enV,enC])).mono ?_
  rintro r S1 ⟨u,rfl,b1,c1,rfl,q1⟩
  have e1:endCallM w.caller v.path v.text=callM w.caller v.path v.text:=by rw [endCallM,if_neg (by rw [hc]; simp)]
  rw [e1] at q1 ⊢
  have q0:S1[S.length]?=some (.cells 0 (wC b c d f w)):=q1.upd.get (by simp -implicitDefEqProofs (maxSteps:=1000000) (disch:=omega) only [push_cast,simprocAttr,↓gd]) (by simp)
  have q2:S1[S.length+2]?=some (.cells 0 zW):=q1.upd.get (by simp -implicitDefEqProofs (maxSteps:=1000000) (disch:=omega) only [push_cast,simprocAttr,↓gd]) (by simp)
  have l0:=lt_of_some q0
  have l2:=lt_of_some q2
  have h0:=h.caller_to (q1.app.toTo b c)
  have hst:=WoTo.still h q1.app.upd
  have hu:=q1.app.upd
  have v0:=h0.at_.var q0
  have v2:=h0.at_.var q2
  have v2':=hst.at_.var q2
  have hfail:(callM w.caller v.path v.text).2.2=false→(callM w.caller v.path v.text).1=w.caller:=by
   unfold callM
   split
   ·exact fun _=>rfl
   ·exact fun q=>by cases q
  generalize callM w.caller v.path v.text=y at *
  obtain ⟨y,i,ok⟩:=y
  simp only at *
  cases ok
  ·have e:=hfail rfl
   subst e
   simp -implicitDefEqProofs (maxSteps:=1000000) (disch:=omega) only [push_cast,simprocAttr,q0,q2,k1,↓gd]
   exact ⟨_,_,Wk.refl _ _ _,⟨b,c,d,f,rfl,(hst.set (j:=S.length+2) _ (by omega) v2').appR _⟩,(hu.set _ (.inl (by omega))).app _⟩
  ·simp -implicitDefEqProofs (maxSteps:=1000000) (disch:=omega) only [push_cast,simprocAttr,q0,q2,k1,↓gd]
   exact ⟨_,_,Wk.refl _ _ _,⟨b1,c1,d,f,rfl,((h0.set (j:=S.length) _ (by omega) v0).set (j:=S.length+2) _ (by omega) v2).appR _⟩,((hu.set _ (.inl (by omega))).set _ (.inl (by omega))).app _⟩
 by_cases k2:v.kind=2
 ·rw [doM_kinds w v 2 k2,if_neg (by decide),if_pos rfl]
  simp -implicitDefEqProofs (maxSteps:=1000000) (disch:=omega) only [push_cast,simprocAttr,k1,k2,↓gd]
  refine ((hcon2 _).as (by simp [eV,enV,enC])).mono ?_
  rintro r S1 ⟨u,rfl,b1,c1,rfl,q1⟩
  have e1:endLeaveM w.caller v.a=leaveM w.caller v.a:=by rw [endLeaveM,if_neg (by rw [hc]; simp)]
  rw [e1] at q1 ⊢
  have q0:S1[S.length]?=some (.cells 0 (wC b c d f w)):=q1.upd.get (by simp -implicitDefEqProofs (maxSteps:=1000000) (disch:=omega) only [push_cast,simprocAttr,↓gd]) (by simp)
  have q2:S1[S.length+2]?=some (.cells 0 zW):=q1.upd.get (by simp -implicitDefEqProofs (maxSteps:=1000000) (disch:=omega) only [push_cast,simprocAttr,↓gd]) (by simp)
  have l0:=lt_of_some q0
  have l2:=lt_of_some q2
  have h0:=h.caller_to (q1.app.toTo b c)
  have hst:=WoTo.still h q1.app.upd
  have hu:=q1.app.upd
  have v0:=h0.at_.var q0
  have v2:=h0.at_.var q2
  have v2':=hst.at_.var q2
  have hfail:(leaveM w.caller v.a).2=false→(leaveM w.caller v.a).1=w.caller:=by
   unfold leaveM
   split
   ·exact fun _=>rfl
   ·split
    ·exact fun _=>rfl
    ·exact fun q=>by cases q
  generalize leaveM w.caller v.a=y at *
  obtain ⟨y,ok⟩:=y
  simp only at *
  cases ok
  ·have e:=hfail rfl
   subst e
   simp -implicitDefEqProofs (maxSteps:=1000000) (disch:=omega) only [push_cast,simprocAttr,q0,q2,k2,↓gd]
   exact ⟨_,_,Wk.refl _ _ _,⟨b,c,d,f,rfl,(hst.set (j:=S.length+2) _ (by omega) v2').appR _⟩,(hu.set _ (.inl (by omega))).app _⟩
  ·simp -implicitDefEqProofs (maxSteps:=1000000) (disch:=omega) only [push_cast,simprocAttr,q0,q2,k2,↓gd]
   exact ⟨_,_,Wk.refl _ _ _,⟨b1,c1,d,f,rfl,((h0.set (j:=S.length) _ (by omega) v0).set (j:=S.length+2) _ (by omega) v2).appR _⟩,((hu.set _ (.inl (by omega))).set _ (.inl (by omega))).app _⟩
 by_cases k3:v.kind=3
 ·rw [doM_kinds w v 3 k3,if_neg (by decide),if_neg (by decide),if_pos rfl]
  by_cases a0:v.a=0
  ·have hm:sayWM w v.a={ w with caller:=if w.caller.bad=false∧w.up.length+(writeM w.caller).2.length≤800 then (writeM w.caller).1 else w.caller,up:=if w.caller.bad=false∧w.up.length+(writeM w.caller).2.length≤800 then w.up++(writeM w.caller).2 else w.up }:=by
    rw [sayWM,if_pos a0]
    split <;> rfl
   rw [hm]
   simp -implicitDefEqProofs (maxSteps:=1000000) (disch:=omega) only [push_cast,simprocAttr,k1,k2,k3,a0,↓gd]
   refine ((hcon3 _).as (by simp [eV,enV,enC])).mono ?_
   rintro r S1 ⟨u,rfl,⟨b1,c1,rfl,q1⟩,hu1⟩
   have hu:Upd [] S S1:=((Upd.refl [] S).app _).trans hu1
   have q0:S1[S.length]?=some (.cells 0 (wC b c d f w)):=q1.upd.get (by simp -implicitDefEqProofs (maxSteps:=1000000) (disch:=omega) only [push_cast,simprocAttr,↓gd]) (by simp; omega)
   have q2:S1[S.length+2]?=some (.cells 0 zW):=q1.upd.get (by simp -implicitDefEqProofs (maxSteps:=1000000) (disch:=omega) only [push_cast,simprocAttr,↓gd]) (by simp; omega)
   have l0:=lt_of_some q0
   have l2:=lt_of_some q2
   have h0:=h.caller_to q1.app
   have v0:=h0.at_.var q0
   have v2:=h0.at_.var q2
   generalize (if w.caller.bad=false∧w.up.length+(writeM w.caller).2.length≤800 then (writeM w.caller).1 else w.caller)=y at *
   generalize (if w.caller.bad=false∧w.up.length+(writeM w.caller).2.length≤800 then w.up++(writeM w.caller).2 else w.up)=o at *
   have h1:=h0.withUp o w.down
   simp -implicitDefEqProofs (maxSteps:=1000000) (disch:=omega) only [push_cast,simprocAttr,q0,q2,k3,↓gd]
   exact ⟨_,_,Wk.refl _ _ _,⟨b1,c1,d,f,rfl,((h1.set (j:=S.length) _ (by omega) v0).set (j:=S.length+2) _ (by omega) v2)⟩,(hu.set _ (.inl (by omega))).set _ (.inl (by omega))⟩
  ·by_cases a1:v.a=1
   ·have hm:sayWM w v.a={ w with answerer:=if w.answerer.bad=false∧w.down.length+(writeM w.answerer).2.length≤800 then (writeM w.answerer).1 else w.answerer,down:=if w.answerer.bad=false∧w.down.length+(writeM w.answerer).2.length≤800 then w.down++(writeM w.answerer).2 else w.down }:=by
     rw [sayWM,if_neg a0,if_pos a1]
     split <;> rfl
    rw [hm]
    simp -implicitDefEqProofs (maxSteps:=1000000) (disch:=omega) only [push_cast,simprocAttr,k1,k2,k3,a0,a1,↓gd]
    refine ((hcon4 _).as (by simp [eV,enV,enC])).mono ?_
    rintro r S1 ⟨u,rfl,⟨d1,f1,rfl,q1⟩,hu1⟩
    have hu:Upd [] S S1:=((Upd.refl [] S).app _).trans hu1
    have q0:S1[S.length]?=some (.cells 0 (wC b c d f w)):=q1.upd.get (by simp -implicitDefEqProofs (maxSteps:=1000000) (disch:=omega) only [push_cast,simprocAttr,↓gd]) (by simp; omega)
    have q2:S1[S.length+2]?=some (.cells 0 zW):=q1.upd.get (by simp -implicitDefEqProofs (maxSteps:=1000000) (disch:=omega) only [push_cast,simprocAttr,↓gd]) (by simp; omega)
    have l0:=lt_of_some q0
    have l2:=lt_of_some q2
    have h0:=h.answerer_to q1.app
    have v0:=h0.at_.var q0
    have v2:=h0.at_.var q2
    generalize (if w.answerer.bad=false∧w.down.length+(writeM w.answerer).2.length≤800 then (writeM w.answerer).1 else w.answerer)=y at *
    generalize (if w.answerer.bad=false∧w.down.length+(writeM w.answerer).2.length≤800 then w.down++(writeM w.answerer).2 else w.down)=o at *
    have h1:=h0.withUp w.up o
    simp -implicitDefEqProofs (maxSteps:=1000000) (disch:=omega) only [push_cast,simprocAttr,q0,q2,k3,↓gd]
    exact ⟨_,_,Wk.refl _ _ _,⟨b,c,d1,f1,rfl,((h1.set (j:=S.length) _ (by omega) v0).set (j:=S.length+2) _ (by omega) v2)⟩,(hu.set _ (.inl (by omega))).set _ (.inl (by omega))⟩
   ·have hm:sayWM w v.a=w:=by rw [sayWM,if_neg a0,if_neg a1]
    rw [hm]
    simp -implicitDefEqProofs (maxSteps:=1000000) (disch:=omega) only [push_cast,simprocAttr,k1,k2,k3,a0,a1,↓gd]
    exact ⟨_,_,Wk.refl _ _ _,⟨b,c,d,f,rfl,.stay h⟩,(Upd.refl _ _).app _⟩
 by_cases k4:v.kind=4
 ·rw [doM_kinds w v 4 k4,if_neg (by decide),if_neg (by decide),if_neg (by decide),if_pos rfl]
  by_cases a0:v.a=0
  ·have hm:passM w v.a v.b={ w with answerer:=if 0≤v.b∧v.b≤90 then hearWM w.answerer (w.up.take v.b.toNat) else w.answerer,up:=if 0≤v.b∧v.b≤90 then w.up.drop v.b.toNat else w.up }:=by
    rw [passM]
    by_cases q:0≤v.b∧v.b≤90
    ·simp only [if_pos q,if_pos a0]
    ·simp only [if_neg q]
   rw [hm]
   simp -implicitDefEqProofs (maxSteps:=1000000) (disch:=omega) only [push_cast,simprocAttr,k1,k2,k3,k4,a0,↓gd]
   refine ((hcon5 _).as (by simp [eV,enV,enC])).mono ?_
   rintro r S1 ⟨u,rfl,⟨d1,f1,rfl,q1⟩,hu1⟩
   have hu:Upd [] S S1:=((Upd.refl [] S).app _).trans hu1
   have q0:S1[S.length]?=some (.cells 0 (wC b c d f w)):=q1.upd.get (by simp -implicitDefEqProofs (maxSteps:=1000000) (disch:=omega) only [push_cast,simprocAttr,↓gd]) (by simp; omega)
   have q2:S1[S.length+2]?=some (.cells 0 zW):=q1.upd.get (by simp -implicitDefEqProofs (maxSteps:=1000000) (disch:=omega) only [push_cast,simprocAttr,↓gd]) (by simp; omega)
   have l0:=lt_of_some q0
   have l2:=lt_of_some q2
   have h0:=h.answerer_to q1.app
   have v0:=h0.at_.var q0
   have v2:=h0.at_.var q2
   generalize (if 0≤v.b∧v.b≤90 then hearWM w.answerer (w.up.take v.b.toNat) else w.answerer)=y at *
   generalize (if 0≤v.b∧v.b≤90 then w.up.drop v.b.toNat else w.up)=o at *
   have h1:=h0.withUp o w.down
   simp -implicitDefEqProofs (maxSteps:=1000000) (disch:=omega) only [push_cast,simprocAttr,q0,q2,k4,↓gd]
   exact ⟨_,_,Wk.refl _ _ _,⟨b,c,d1,f1,rfl,((h1.set (j:=S.length) _ (by omega) v0).set (j:=S.length+2) _ (by omega) v2)⟩,(hu.set _ (.inl (by omega))).set _ (.inl (by omega))⟩
  ·by_cases a1:v.a=1
   ·have hm:passM w v.a v.b={ w with caller:=if 0≤v.b∧v.b≤90 then hearWM w.caller (w.down.take v.b.toNat) else w.caller,down:=if 0≤v.b∧v.b≤90 then w.down.drop v.b.toNat else w.down }:=by
     rw [passM]
     by_cases q:0≤v.b∧v.b≤90
     ·simp only [if_pos q,if_neg a0,if_pos a1]
     ·simp only [if_neg q]
    rw [hm]
    simp -implicitDefEqProofs (maxSteps:=1000000) (disch:=omega) only [push_cast,simprocAttr,k1,k2,k3,k4,a0,a1,↓gd]
    refine ((hcon6 _).as (by simp [eV,enV,enC])).mono ?_
    rintro r S1 ⟨u,rfl,⟨b1,c1,rfl,q1⟩,hu1⟩
    have hu:Upd [] S S1:=((Upd.refl [] S).app _).trans hu1
    have q0:S1[S.length]?=some (.cells 0 (wC b c d f w)):=q1.upd.get (by simp -implicitDefEqProofs (maxSteps:=1000000) (disch:=omega) only [push_cast,simprocAttr,↓gd]) (by simp; omega)
    have q2:S1[S.length+2]?=some (.cells 0 zW):=q1.upd.get (by simp -implicitDefEqProofs (maxSteps:=1000000) (disch:=omega) only [push_cast,simprocAttr,↓gd]) (by simp; omega)
    have l0:=lt_of_some q0
    have l2:=lt_of_some q2
    have h0:=h.caller_to q1.app
    have v0:=h0.at_.var q0
    have v2:=h0.at_.var q2
    generalize (if 0≤v.b∧v.b≤90 then hearWM w.caller (w.down.take v.b.toNat) else w.caller)=y at *
    generalize (if 0≤v.b∧v.b≤90 then w.down.drop v.b.toNat else w.down)=o at *
    have h1:=h0.withUp w.up o
    simp -implicitDefEqProofs (maxSteps:=1000000) (disch:=omega) only [push_cast,simprocAttr,q0,q2,k4,↓gd]
    exact ⟨_,_,Wk.refl _ _ _,⟨b1,c1,d,f,rfl,((h1.set (j:=S.length) _ (by omega) v0).set (j:=S.length+2) _ (by omega) v2)⟩,(hu.set _ (.inl (by omega))).set _ (.inl (by omega))⟩
   ·have hm:passM w v.a v.b=w:=by
     rw [passM]
     by_cases q:0≤v.b∧v.b≤90
     ·simp only [if_pos q,if_neg a0,if_neg a1]
     ·simp only [if_neg q]
    rw [hm]
    simp -implicitDefEqProofs (maxSteps:=1000000) (disch:=omega) only [push_cast,simprocAttr,k1,k2,k3,k4,a0,a1,↓gd]
    exact ⟨_,_,Wk.refl _ _ _,⟨b,c,d,f,rfl,.stay h⟩,(Upd.refl _ _).app _⟩
 rw [doM_kinds w v v.kind rfl,if_neg k1,if_neg k2,if_neg k3,if_neg k4]
 simp -implicitDefEqProofs (maxSteps:=1000000) (disch:=omega) only [push_cast,simprocAttr,k1,k2,k3,k4,↓gd]
 exact ⟨_,_,Wk.refl _ _ _,⟨b,c,d,f,rfl,.stay h⟩,(Upd.refl _ _).app _⟩
theorem woOk_parts {w:Wo} (h:woOk w=true):endOk w.caller=true∧endOk w.answerer=true:=by
 simp only [woOk,Bool.and_eq_true] at h
 exact ⟨by simp_all,by simp_all⟩
theorem WorldDo_ok {w:Wo} (hB:WoB w) (v:Ev) (hv:EvB v) {S:List Blk} {b c d f:Nat} (h:WoAt S b c d f w):VCall Tryz.prog 34 [wV b c d f w,evV v] S fun r S'=>RWNew S (worldDoM w v) r S':=by
 have hok:=fun X=>WorldOk_ok hB (h.app X)
 refine VCall.en hDe Tryz.func34 Tryz.ntmps34 Tryz.results34 ?_
 simp -implicitDefEqProofs (maxSteps:=1000000) (disch:=omega) only [push_cast,simprocAttr,↓gd]
 refine ((hok _).as (by simp [wV,wC,enC])).to ?_
 cases hE:woOk w
 ·rw [worldDoM,if_pos hE]
  simp -implicitDefEqProofs (maxSteps:=1000000) (disch:=omega) only [push_cast,simprocAttr,↓gd]
  exact RWNew.zero
 ·rw [worldDoM,if_neg (by rw [hE]; simp)]
  have hp:=woOk_parts hE
  have hdo:=fun X=>do_ok hB hp.1 hp.2 v hv (h.app X)
  have hW:=doM_w (woOk_w hE |>.mono (show 60≤642 by decide)) (by decide) v
  simp -implicitDefEqProofs (maxSteps:=1000000) (disch:=omega) only [push_cast,simprocAttr,↓gd]
  refine ((hdo _).as (by simp [wV,wC,enC,evV])).mono ?_
  rintro r S1 ⟨⟨b1,c1,d1,f1,rfl,q1⟩,hu1⟩
  have hu:Upd [] S S1:=((Upd.refl [] S).app _).trans hu1
  have k0:S1[S.length]?=some (.cells 0 (wC b c d f w)):=q1.upd.get (by simp -implicitDefEqProofs (maxSteps:=1000000) (disch:=omega) only [push_cast,simprocAttr,↓gd]) (by simp; have:=h.nes; omega)
  have k2:S1[S.length+2]?=some (.cells 0 zW):=q1.upd.get (by simp -implicitDefEqProofs (maxSteps:=1000000) (disch:=omega) only [push_cast,simprocAttr,↓gd]) (by simp; have:=h.nes; omega)
  have k0':=k0
  have k1:S1[S.length+1]?=some (.cells 0 [.int .i64 v.kind,.int .i64 v.a,.int .i64 v.b,.str v.path,.str v.text]):=q1.upd.get (by simp -implicitDefEqProofs (maxSteps:=1000000) (disch:=omega) only [push_cast,simprocAttr,↓gd]) (by simp; have:=h.nes; omega)
  have l2:=lt_of_some k2
  have hy:=hW.b (by decide)
  have hat:=q1.at_
  generalize doM w v=y at *
  simp -implicitDefEqProofs (maxSteps:=1000000) (disch:=omega) only [push_cast,simprocAttr,k0,k1,k2,↓gd]
  refine ((wclone_ok hy hat).as (by simp [wV,wC,enC])).mono ?_
  rintro r S2 ⟨b2,c2,d2,f2,rfl,q2⟩
  have k2':=q2.upd.get k2 (by simp)
  have l2':=lt_of_some k2'
  have v2:=q2.at_.var k2'
  have e1:=q2.hb; have e2:=q2.hc; have e3:=q2.hd; have e4:=q2.hf
  have e5:=q1.upd.1
  simp at e5
  simp -implicitDefEqProofs (maxSteps:=1000000) (disch:=omega) only [push_cast,simprocAttr,k2',↓gd]
  exact ⟨_,_,Wk.refl _ _ _,b2,c2,d2,f2,rfl,⟨q2.at_.set _ v2,by omega,by omega,by omega,by omega,(hu.trans q2.upd).set _ (.inl (by omega))⟩⟩
end
section
open Go
theorem WorldPlay_ok (l:List Ev) (hl:l.length≤1100000) (hv:∀v ∈ l,EvB v) (hoks:l.length≤60→∀i,i≤l.length→endOk (playM (l.take i)).caller=true∧endOk (playM (l.take i)).answerer=true) (S:List Blk) :
  VCall Tryz.prog 30 [.rows none (l.map evV)] S fun r S'=>∃u,r=.tup [u,.bool (worldPlayM l).2]∧RWNew S (worldPlayM l).1 u S':=by
 refine VCall.en hDe Tryz.func30 Tryz.ntmps30 Tryz.results30 ?_
 by_cases h60:(l.length:Int) > 60
 ·rw [worldPlayM,if_pos (by omega)]
  simp -implicitDefEqProofs (disch:=omega) only [push_cast,simprocAttr,h60,↓gd]
  obtain ⟨r,S2,h1,h2⟩:=RWNew.zero (S:=S) (X:=[.cells 0 zW])
  exact ⟨_,S2,h1.fst (xs:=[.bool false]) (by simp [Plain]),r,rfl,h2⟩
 ·rw [worldPlayM,if_neg (by omega)]
  have hoks:=hoks (by omega)
  simp -implicitDefEqProofs (disch:=omega) only [push_cast,simprocAttr,h60,↓gd]
  refine (WorldNew_ok _).mono ?_
  rintro r S1 ⟨b,c,d,f,rfl,q1⟩
  have k0:S1[S.length]?=some (.cells 0 zW):=q1.upd.get (by simp -implicitDefEqProofs (disch:=omega) only [push_cast,simprocAttr,↓gd]) (by simp)
  have e0:=q1.hb; have e1:=q1.hc; have e2:=q1.hd; have e3:=q1.hf
  simp at e0 e1 e2 e3
  have hS1:=lt_of_some k0
  simp -implicitDefEqProofs (disch:=omega) only [push_cast,simprocAttr,k0,↓gd]
  refine wpV_loop (fun m t S2=>∃(i b c d f:Nat),m=l.length - i∧i≤l.length∧t 2=.ptr S.length 0∧t 4=.ptr S1.length 0∧t 12=.rows none (l.map evV)∧t 13=.int .i64 l.length∧t 14=.int .i64 i ∧
   S2[S1.length]?=some (.cells 0 (wC b c d f (playM (l.take i))))∧S2[S.length]?=some (.cells 0 zW)∧WoNew S (playM (l.take i)) b c d f S2) l.length
   ⟨0,b,c,d,f,by omega,by omega,rfl,rfl,rfl,rfl,rfl,by simp -implicitDefEqProofs (disch:=omega) only [push_cast,simprocAttr,↓gd]; rfl,by simp -implicitDefEqProofs (disch:=omega) only [push_cast,simprocAttr,k0,↓gd],q1.app.appR _⟩ ?_
  rintro m t S2 ⟨i,b1,c1,d1,f1,rfl,hi,h2,h4,h12,h13,h14,k1,k0,q2⟩
  have l0:=lt_of_some k0
  have l1:=lt_of_some k1
  have hW:=playM_w (l.take i)
  have hti:(l.take i).length=i:=by simp; omega
  refine wpV_of0 hDe ?_
  simp -implicitDefEqProofs (disch:=omega) only [push_cast,simprocAttr,h2,h4,h12,h13,h14,k0,k1,↓gd]
  refine ⟨fun h=>?_,fun h=>?_⟩
  ·have hil:i < l.length:=by omega
   have hgd:=getD_evV hil
   have hst:=playM_take ev0 hil
   have hvb:EvB (l.getD i ev0):=hv _ (by rw [getD_lt ev0 hil]; exact List.getElem_mem hil)
   have hoki:=hoks i hi
   generalize l.getD i ev0=v at *
   have hB:=hW.b (by omega)
   generalize playM (l.take i)=w at *
   simp -implicitDefEqProofs (disch:=omega) only [push_cast,simprocAttr,h2,h4,h12,h13,h14,k0,k1,hgd,evs_len5,↓gd]
   repeat refine And.intro (by omega) ?_
   refine ((do_ok hB hoki.1 hoki.2 v hvb (q2.at_.app _)).as (by simp [wV,wC,enC,evV])).mono ?_
   rintro r S3 ⟨⟨b2,c2,d2,f2,rfl,q3⟩,hu3⟩
   have v0:=q2.at_.var k0
   have v1:=q2.at_.var k1
   have k0':=hu3.get (j:=S.length) (B:=.cells 0 zW) (by simp -implicitDefEqProofs (disch:=omega) only [push_cast,simprocAttr,k0,↓gd]) (by simp)
   have k1':=hu3.get (j:=S1.length) (B:=.cells 0 (wC b1 c1 d1 f1 w)) (by simp -implicitDefEqProofs (disch:=omega) only [push_cast,simprocAttr,k1,↓gd]) (by simp)
   have l1':=lt_of_some k1'
   have hn:=q2.to q3.app
   have v1':=hn.at_.var k1'
   rw [←hst] at hn
   rw [←hst]
   generalize doM w v=y at *
   simp -implicitDefEqProofs (disch:=omega) only [push_cast,simprocAttr,h2,h4,h12,h13,h14,k0',k1',↓gd]
   exact ⟨l.length - (i+1),by omega,i+1,b2,c2,d2,f2,rfl,by omega,by simp,rfl,hn.set (j:=S1.length) _ (by omega) v1'⟩
  ·have:i=l.length:=by omega
   subst this
   rw [List.take_length] at *
   have hB:=hW.b (by omega)
   have hat:=q2.at_
   generalize playM l=w at *
   refine ((wclone_ok hB hat).as (by simp [wV,wC,enC])).mono ?_
   rintro r S3 ⟨b2,c2,d2,f2,rfl,q3⟩
   have k0':=q3.upd.get k0 (by simp)
   have v2:=q3.at_.var k0'
   have l0':=lt_of_some k0'
   have e1:=q3.hb; have e2:=q3.hc; have e3:=q3.hd; have e4:=q3.hf
   simp -implicitDefEqProofs (disch:=omega) only [push_cast,simprocAttr,h2,k0',↓gd]
   exact ⟨_,_,Wk.refl _ _ _,_,rfl,b2,c2,d2,f2,rfl,⟨q3.at_.set _ v2,by omega,by omega,by omega,by omega,(q2.upd.trans q3.upd).set _ (.inl (by omega))⟩⟩
structure Stays (I:Wo→Prop):Prop where
 step:∀w v,I w→I (doM w v)
 ok:∀w,I w→endOk w.caller=true∧endOk w.answerer=true
 idle:∀w,I w→(w.up=[]→passM w 0 90=w)∧(w.down=[]→passM w 1 90=w)
def passN:Nat→Wo→Int→Wo
 | 0,w,_=>w
 | n+1,w,way=>passN n (passM w way 90) way
theorem passN_snoc:∀(n:Nat) (w:Wo) (way:Int),passN (n+1) w way=passM (passN n w way) way 90
 | 0,w,way=>rfl
 | n+1,w,way=>passN_snoc n (passM w way 90) way
theorem passM_do (w:Wo) (way n:Int):passM w way n=doM w ⟨4,way,n,[],[]⟩:=rfl
theorem sayWM_do (w:Wo) (side:Int):sayWM w side=doM w ⟨3,side,0,[],[]⟩:=rfl
theorem passN_idle {I:Wo→Prop} (hI:Stays I) (way:Int):∀(n:Nat) (w:Wo),I w→(way=0∧w.up=[])∨(way=1∧w.down=[])→passN n w way=w
 | 0,w,_,_=>rfl
 | n+1,w,h,hw=>by
  have e:passM w way 90=w:=by
   rcases hw with ⟨rfl,hw⟩ | ⟨rfl,hw⟩
   ·exact (hI.idle w h).1 hw
   ·exact (hI.idle w h).2 hw
  rw [passN,e]
  exact passN_idle hI way n w h hw
theorem allM_passN {I:Wo→Prop} (hI:Stays I) (way:Int):∀(n:Nat) (w:Wo),I w→allM n w way=passN n w way
 | 0,w,_=>rfl
 | n+1,w,h=>by
  have h1:I (passM w way 90):=by rw [passM_do]; exact hI.step _ _ h
  rw [allM_succ,passN]
  split
  ·rename_i hc
   rw [passN_idle hI way n _ h1 hc]
  ·exact allM_passN hI way n _ h1
structure CalmAt (I:Wo→Prop) (S:List Blk) (b c d f:Nat) (x:Wo) (b1 c1 d1 f1:Nat) (S2:List Blk):Prop where
 var:S2[S.length]?=some (.cells 0 (wC b1 c1 d1 f1 x))
 zero:S2[S.length+1]?=some (.cells 0 zW)
 to:WoTo S b c d f x b1 c1 d1 f1 S2
 upd:Upd [] S S2
 i:I x
 w:WoW 642 x
theorem CalmAt.step {I:Wo→Prop} {S:List Blk} {b c d f:Nat} {x y:Wo} {b1 c1 d1 f1 b2 c2 d2 f2:Nat} {S2 S3:List Blk} (h:CalmAt I S b c d f x b1 c1 d1 f1 S2) (q:WoTo S2 b1 c1 d1 f1 y b2 c2 d2 f2 S3) (hu:Upd [] S2 S3) (hi:I y) (hw:WoW 642 y) :
  CalmAt I S b c d f y b2 c2 d2 f2 (S3.set S.length (.cells 0 (wC b2 c2 d2 f2 y))):=by
 have k0:=hu.get h.var (by simp)
 have k1:=hu.get h.zero (by simp)
 have l0:=lt_of_some k0
 have hn:=h.to.trans q
 have v0:=hn.at_.var k0
 refine ⟨by rw [List.getElem?_set,if_pos rfl,if_pos l0],?_,hn.set (j:=S.length) _ (Nat.le_refl _) v0,(h.upd.trans hu).set _ (.inl (Nat.le_refl _)),hi,hw⟩
 rw [get_set_ne (by omega)]
 exact k1
def halfM (w:Wo) (way:Int):Wo:=passN 12 (sayWM w way) way
theorem roundM_half {I:Wo→Prop} (hI:Stays I) {w:Wo} (h:I w):roundM w=halfM (halfM w 0) 1:=by
 have h1:I (sayWM w 0):=by rw [sayWM_do]; exact hI.step _ _ h
 have e1:allM 12 (sayWM w 0) 0=passN 12 (sayWM w 0) 0:=allM_passN hI 0 12 _ h1
 have h2:∀n x way,I x→I (passN n x way):=by
  intro n
  induction n with
  | zero=>intro x way hx; exact hx
  | succ n ih=>intro x way hx; exact ih _ way (by rw [passM_do]; exact hI.step _ _ hx)
 have h3:I (sayWM (passN 12 (sayWM w 0) 0) 1):=by rw [sayWM_do]; exact hI.step _ _ (h2 12 _ 0 h1)
 rw [roundM,e1,allM_passN hI 1 12 _ h3]
 rfl
def partM (w:Wo):Nat→Wo
 | 0=>w
 | 1=>halfM w 0
 | _=>halfM (halfM w 0) 1
theorem partM_succ (w:Wo) {j:Nat} (h:j < 2):partM w (j+1)=halfM (partM w j) j:=by
 rcases (show j=0∨j=1 by omega) with rfl | rfl <;> rfl
theorem WorldCalm_ok {I:Wo→Prop} (hI:Stays I) {w:Wo} (hB:WoB w) (hw:woOk w=true→I w) (n:Int) {S:List Blk} {b c d f:Nat} (h:WoAt S b c d f w):VCall Tryz.prog 33 [wV b c d f w,.int .i64 n] S fun r S'=>RWNew S (worldCalmM w n) r S':=by
 have hok:=fun X=>WorldOk_ok hB (h.app X)
 obtain ⟨n1,n2,n3,n4,n5,n6,n7,n8⟩:=h.nes
 refine VCall.en hDe Tryz.func33 Tryz.ntmps33 Tryz.results33 ?_
 simp -implicitDefEqProofs (disch:=omega) only [push_cast,simprocAttr,↓gd]
 refine ((hok _).as (by simp [wV,wC,enC])).to ?_
 cases hE:woOk w
 ·rw [worldCalmM,if_pos (.inl hE)]
  simp -implicitDefEqProofs (disch:=omega) only [push_cast,simprocAttr,↓gd]
  exact RWNew.zero
 ·by_cases hin:0≤n∧n≤16
  ·rw [worldCalmM,if_neg (by rw [hE]; simpa using hin)]
   have hIw:=hw hE
   have hW:WoW 642 w:=(woOk_w hE).mono (by omega)
   simp -implicitDefEqProofs (disch:=omega) only [push_cast,simprocAttr,↓gd]
   refine (in_t hin _).to ?_
   simp -implicitDefEqProofs (disch:=omega) only [push_cast,simprocAttr,↓gd]
   refine wpV_loop (fun m t S2=>∃(i b1 c1 d1 f1:Nat),m=n.toNat - i∧i≤n.toNat∧t 2=.ptr S.length 0∧t 4=.ptr (S.length+1) 0∧t 15=.int .i64 n∧t 16=.int .i64 i ∧
    CalmAt I S b c d f (roundsM i w) b1 c1 d1 f1 S2) n.toNat
    ⟨0,b,c,d,f,by omega,by omega,rfl,rfl,rfl,rfl,by simp -implicitDefEqProofs (disch:=omega) only [push_cast,simprocAttr,↓gd]; rfl,by simp -implicitDefEqProofs (disch:=omega) only [push_cast,simprocAttr,↓gd],.stay h,(Upd.refl _ _).app _,hIw,hW⟩ ?_
   rintro m t S2 ⟨i,b1,c1,d1,f1,rfl,hi,h2,h4,h15,h16,hca⟩
   have k0:=hca.var
   have k1:=hca.zero
   have l0:=lt_of_some k0
   have l1:=lt_of_some k1
   have hst:=roundsM_snoc i w
   have hri:=roundM_half hI hca.i
   refine wpV_of0 hDe ?_
   by_cases hlt:i < n.toNat
   ·have hlt':(i:Int) < n:=by omega
    have hm1:n.toNat - (i+1) < n.toNat - i:=by omega
    have hm2:i+1≤n.toNat:=by omega
    generalize roundsM i w=x at *
    simp -implicitDefEqProofs (disch:=omega) only [push_cast,simprocAttr,h2,h4,h15,h16,hlt',↓gd]
    refine wpV_loop (fun m t S3=>∃(j b2 c2 d2 f2:Nat),m=2 - j∧j≤2∧t 2=.ptr S.length 0∧t 4=.ptr (S.length+1) 0∧t 15=.int .i64 n∧t 16=.int .i64 i∧t 18=.int .i64 j ∧
     CalmAt I S b c d f (partM x j) b2 c2 d2 f2 S3) 2 ⟨0,b1,c1,d1,f1,by omega,by omega,h2,h4,h15,h16,rfl,hca⟩ ?_
    rintro m t S3 ⟨j,b2,c2,d2,f2,rfl,hj,h2,h4,h15,h16,h18,hcb⟩
    have k0:=hcb.var
    have k1:=hcb.zero
    have l0:=lt_of_some k0
    refine wpV_of0 hDe ?_
    by_cases hlj:j < 2
    ·have hlj':(j:Int) < 2:=by omega
     have hpj:=partM_succ x hlj
     generalize partM x j=y at *
     have hBy:=hcb.w.b (by decide)
     have hoy:=hI.ok _ hcb.i
     have hIs:I (sayWM y j):=by rw [sayWM_do]; exact hI.step _ _ hcb.i
     have hWs:=sayWM_w hcb.w j
     simp -implicitDefEqProofs (disch:=omega) only [push_cast,simprocAttr,h2,h4,h15,h16,h18,hlj',k0,↓gd]
     refine ((do_ok hBy hoy.1 hoy.2 ⟨3,j,0,[],[]⟩ (by simp [EvB]) hcb.to.at_).as (by simp [wV,wC,enC,evV])).mono ?_
     rintro r S4 ⟨⟨b3,c3,d3,f3,rfl,q4⟩,hu4⟩
     rw [←sayWM_do] at q4 ⊢
     have hcd:=hcb.step q4 hu4 hIs hWs
     have k0':=hu4.get k0 (by simp)
     have l0':=lt_of_some k0'
     rw [halfM] at hpj
     generalize sayWM y j=z at *
     simp -implicitDefEqProofs (disch:=omega) only [push_cast,simprocAttr,h2,h4,h15,h16,h18,k0',↓gd]
     refine wpV_loop (fun m t S5=>∃(k b4 c4 d4 f4:Nat),m=12 - k∧k≤12∧t 2=.ptr S.length 0∧t 4=.ptr (S.length+1) 0∧t 15=.int .i64 n∧t 16=.int .i64 i∧t 18=.int .i64 j∧t 5=.int .i64 j∧t 25=.int .i64 k ∧
      CalmAt I S b c d f (passN k z j) b4 c4 d4 f4 S5) 12 ⟨0,b3,c3,d3,f3,by omega,by omega,h2,h4,h15,h16,h18,rfl,rfl,hcd⟩ ?_
     rintro m t S5 ⟨k,b4,c4,d4,f4,rfl,hk,h2,h4,h15,h16,h18,h5,h25,hce⟩
     have k0:=hce.var
     have l0:=lt_of_some k0
     refine wpV_of0 hDe ?_
     by_cases hlk:k < 12
     ·have hlk':(k:Int) < 12:=by omega
      have hpk:=passN_snoc k z j
      generalize passN k z j=u at *
      have hBu:=hce.w.b (by decide)
      have hou:=hI.ok _ hce.i
      have hIp:I (passM u j 90):=by rw [passM_do]; exact hI.step _ _ hce.i
      have hWp:=passM_w hce.w (Nat.le_refl _) j 90
      simp -implicitDefEqProofs (disch:=omega) only [push_cast,simprocAttr,h2,h4,h15,h16,h18,h5,h25,hlk',k0,↓gd]
      refine ((do_ok hBu hou.1 hou.2 ⟨4,j,90,[],[]⟩ (by simp [EvB]) hce.to.at_).as (by simp [wV,wC,enC,evV])).mono ?_
      rintro r S6 ⟨⟨b5,c5,d5,f5,rfl,q6⟩,hu6⟩
      rw [←passM_do] at q6 ⊢
      have hcf:=hce.step q6 hu6 hIp hWp
      have k0':=hu6.get k0 (by simp)
      have l0':=lt_of_some k0'
      rw [←hpk] at hcf
      have hpk':=hpk.symm
      simp -implicitDefEqProofs (disch:=omega) only [push_cast,simprocAttr,h2,h4,h15,h16,h18,h5,h25,k0',hpk',↓gd]
      exact ⟨12 - (k+1),by omega,k+1,b5,c5,d5,f5,rfl,by omega,by simp,hcf⟩
     ·have:k=12:=by omega
      subst this
      have hlk':¬(12:Int) < 12:=by omega
      simp -implicitDefEqProofs (disch:=omega) only [push_cast,simprocAttr,h2,h4,h15,h16,h18,h5,h25,↓gd]
      exact ⟨2 - (j+1),by omega,j+1,b4,c4,d4,f4,rfl,by omega,by simp,by rw [hpj]; exact hce⟩
    ·have:j=2:=by omega
     subst this
     simp -implicitDefEqProofs (disch:=omega) only [push_cast,simprocAttr,h2,h4,h15,h16,h18,↓gd]
     exact ⟨n.toNat - (i+1),hm1,i+1,b2,c2,d2,f2,rfl,hm2,by simp,by rw [hst,hri]; exact hcb⟩
   ·have:i=n.toNat:=by omega
    subst this
    have hlt':¬((n.toNat:Nat):Int) < n:=by omega
    generalize roundsM n.toNat w=x at *
    have hBx:=hca.w.b (by decide)
    simp -implicitDefEqProofs (disch:=omega) only [push_cast,simprocAttr,h2,h4,h15,h16,hlt',k0,↓gd]
    refine ((wclone_ok hBx hca.to.at_).as (by simp [wV,wC,enC])).mono ?_
    rintro r S3 ⟨b2,c2,d2,f2,rfl,q3⟩
    have k1':=q3.upd.get k1 (by simp)
    have v2:=q3.at_.var k1'
    have l1':=lt_of_some k1'
    have e1:=q3.hb; have e2:=q3.hc; have e3:=q3.hd; have e4:=q3.hf
    simp -implicitDefEqProofs (disch:=omega) only [push_cast,simprocAttr,h4,k1',↓gd]
    exact ⟨_,_,Wk.refl _ _ _,b2,c2,d2,f2,rfl,⟨q3.at_.set _ v2,by omega,by omega,by omega,by omega,(hca.upd.trans q3.upd).set _ (.inl (by omega))⟩⟩
  ·rw [worldCalmM,if_pos (.inr hin)]
   simp -implicitDefEqProofs (disch:=omega) only [push_cast,simprocAttr,↓gd]
   refine (in_f hin _).to ?_
   simp -implicitDefEqProofs (disch:=omega) only [push_cast,simprocAttr,↓gd]
   exact RWNew.zero
end
section
open Go
def headGetM (h:List Fd) (name:List UInt8):List UInt8 × Bool:=if headOk h then getM h name else ([],false)
theorem HeadGet_ok (h:List Fd) (hl:FdsB h) (name:List UInt8) (S:List Blk):VCall Tryz.prog 26 [.rows none (h.map fV),.str name] S fun r S'=>r=.tup [.str (headGetM h name).1,.bool (headGetM h name).2]∧S'=S:=by
 refine VCall.en hD Tryz.func26 Tryz.ntmps26 Tryz.results26 ?_
 simp -implicitDefEqProofs (disch:=omega) only [push_cast,simprocAttr,↓gd]
 refine ((HeadOk_ok h hl _).as rfl).to ?_
 cases hE:headOk h
 ·simp -implicitDefEqProofs (disch:=omega) only [push_cast,simprocAttr,↓gd]
  exact fin0 (by simp [headGetM,hE])
 ·simp -implicitDefEqProofs (disch:=omega) only [push_cast,simprocAttr,↓gd]
  refine ((get_ok h hl name _).as rfl).to ?_
  simp -implicitDefEqProofs (disch:=omega) only [push_cast,simprocAttr,↓gd]
  exact fin0 (by simp [headGetM,hE])
end
end Go.Proofs.YtaamlddnpamomaaGreatDoor
