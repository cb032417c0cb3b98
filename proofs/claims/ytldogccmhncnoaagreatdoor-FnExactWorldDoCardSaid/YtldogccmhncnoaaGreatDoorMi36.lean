/- A part of the proof: contracts of functions, or plain facts on which these lean. -/
import Derived.Test.YtldogccmhncnoaaGreatDoorMi26
import Derived.Test.YtldogccmhncnoaaGreatDoorMi34
import Derived.Test.YtldogccmhncnoaaGreatDoorMi35
namespace Go.Proofs.YtldogccmhncnoaaGreatDoor
open Go
set_option linter.unusedVariables false
set_option linter.unusedSimpArgs false
set_option maxRecDepth 100000
set_option maxHeartbeats 16000000

section
open Go
theorem WorldOk_X {w:Wo} (hB:WoB w) {S:List Blk} {p q:XP} (h:WX S p q w):VCall Tryz.prog 58 [pV p q w] S fun r S'=>r=.bool (woOk w)∧S'=S:=by
 have h1:=fun X=>EndOk_X hB.caller (h.caller.app X)
 have h2:=fun X=>EndOk_X hB.answerer (h.answerer.app X)
 obtain ⟨o1,i1,o2,i2,o3,i3⟩:=h.caller.facts
 obtain ⟨o4,i4,o5,i5,o6,i6⟩:=h.answerer.facts
 refine VCall.en hDe Tryz.func58 Tryz.ntmps58 Tryz.results58 ?_
 simp -implicitDefEqProofs (disch:=omega) only [push_cast,simprocAttr,o1,i1,o2,i2,o4,i4,o5,i5,↓gd]
 refine ((h1 _).as (by simp [xV,enX,o1,i1,o2,i2,o3,i3,o4,i4,o5,i5,o6,i6])).to ?_
 cases e1:endOk w.caller
 ·simp -implicitDefEqProofs (disch:=omega) only [push_cast,simprocAttr,o1,i1,o2,i2,o4,i4,o5,i5,↓gd]
  exact fin1 (.bool _) (by simp [woOk,e1])
 simp -implicitDefEqProofs (disch:=omega) only [push_cast,simprocAttr,o1,i1,o2,i2,o4,i4,o5,i5,↓gd]
 refine ((h2 _).as (by simp [xV,enX,o1,i1,o2,i2,o3,i3,o4,i4,o5,i5,o6,i6])).to ?_
 cases e2:endOk w.answerer
 ·simp -implicitDefEqProofs (disch:=omega) only [push_cast,simprocAttr,o1,i1,o2,i2,o4,i4,o5,i5,↓gd]
  exact fin1 (.bool _) (by simp [woOk,e1,e2])
 rcases Bool.eq_false_or_eq_true w.caller.ans with e3 | e3
 ·simp -implicitDefEqProofs (disch:=omega) only [push_cast,simprocAttr,e3,o1,i1,o2,i2,o4,i4,o5,i5,↓gd]
  exact fin1 (.bool _) (by simp [woOk,e1,e2,e3])
 rcases Bool.eq_false_or_eq_true w.answerer.ans with e4 | e4
 ·by_cases e5:(w.up.length:Int)≤800
  ·have e5':w.up.length≤800:=by omega
   simp -implicitDefEqProofs (disch:=omega) only [push_cast,simprocAttr,e3,e4,e5,o1,i1,o2,i2,o4,i4,o5,i5,↓gd]
   exact fin1 (.bool _) (by simp only [woOk,e1,e2,e3,e4,decide_eq_true e5',Bool.true_and,Bool.not_false]; congr 1; exact decide_eq_decide.2 (by omega))
  ·have e5':¬w.up.length≤800:=by omega
   simp -implicitDefEqProofs (disch:=omega) only [push_cast,simprocAttr,e3,e4,e5,o1,i1,o2,i2,o4,i4,o5,i5,↓gd]
   exact fin1 (.bool _) (by simp [woOk,e5'])
 ·simp -implicitDefEqProofs (disch:=omega) only [push_cast,simprocAttr,e3,e4,o1,i1,o2,i2,o4,i4,o5,i5,↓gd]
  exact fin1 (.bool _) (by simp [woOk,e1,e2,e3,e4])
theorem wclone_O {w:Wo} (hB:WoB w) {S:List Blk} {p q:XP} (h:WX S p q w):VCall Tryz.prog 60 [pV p q w] S fun r S'=>RWO S w r S':=by
 have h1:=fun X=>eclone_O hB.caller (h.caller.app X)
 have h2:=fun S2 (g:EX S2 q w.answerer)=>eclone_O hB.answerer (S:=S2) g
 obtain ⟨o1,i1,o2,i2,o3,i3⟩:=h.caller.facts
 obtain ⟨o4,i4,o5,i5,o6,i6⟩:=h.answerer.facts
 refine VCall.ex hDe (fun _=>false) (fun id=>if id=1 then [2,2,5,5,5,7,7,9,9,10] else []) Tryz.func60 Tryz.ntmps60 Tryz.results60 ?_
 simp -implicitDefEqProofs (disch:=omega) only [push_cast,simprocAttr,o1,i1,o2,i2,o4,i4,o5,i5,↓gd]
 refine ((h1 _).as (by simp [xV,enX,o1,i1,o2,i2,o3,i3,o4,i4,o5,i5,o6,i6])).mono ?_
 rintro r S1 ⟨po,pi,b1,c1,ls,rfl,n1⟩
 have k0:S1[S.length]?=some (.cells 0 (pC p q w)):=n1.upd.get (by simp -implicitDefEqProofs (disch:=omega) only [push_cast,simprocAttr,↓gd]) (by simp)
 have k1:S1[S.length+1]?=some (.cells 0 zW):=n1.upd.get (by simp -implicitDefEqProofs (disch:=omega) only [push_cast,simprocAttr,↓gd]) (by simp)
 simp -implicitDefEqProofs (disch:=omega) only [push_cast,simprocAttr,k0,k1,o1,i1,o2,i2,o4,i4,o5,i5,↓gd]
 refine ((h2 _ ((h.answerer.app _).upd n1.upd)).as (by simp [xV,enX,o1,i1,o2,i2,o3,i3,o4,i4,o5,i5,o6,i6])).mono ?_
 rintro r S2 ⟨qo,qi,d1,f1,ks,rfl,n2⟩
 have k0':=n2.upd.get k0 (by simp)
 have k1':=n2.upd.get k1 (by simp)
 have l0:=lt_of_some k0'
 have l1:=lt_of_some k1'
 have hu:Upd [] S S1:=((Upd.refl [] S).app _).trans n1.upd
 simp -implicitDefEqProofs (disch:=omega) only [push_cast,simprocAttr,k0,k1,k0',k1',o1,i1,o2,i2,o4,i4,o5,i5,↓gd]
 refine ⟨_,_,Wk.refl _ _ _,po,pi,b1,c1,ls,qo,qi,d1,f1,ks,rfl,?_⟩
 have hc:EnO S po pi b1 c1 ls w.caller S2:=(n1.upd2 n2.upd).of ((Upd.refl [] S).app _)
 have ha:EnO S qo qi d1 f1 ks w.answerer S2:=n2.of hu
 have hw:WoO S po pi b1 c1 ls qo qi d1 f1 ks w S2:=⟨hc,ha,fun p hp q hq=>Nat.lt_of_lt_of_le (n1.below p hp) (n2.above q hq)⟩
 have k0s:∀B,(S2.set (S.length+1) B)[S.length]?=some (.cells 0 (pC p q w)):=fun B=>by rw [List.getElem?_set_ne (by omega)]; exact k0'
 have k1s:∀B,(S2.set S.length B)[S.length+1]?=some (.cells 0 zW):=fun B=>by rw [List.getElem?_set_ne (by omega)]; exact k1'
 first
  | exact (hw.var _ k1' (by omega)).var _ (k0s _) (by omega)
  | exact (hw.var _ k0' (by omega)).var _ (k1s _) (by omega)
  | exact hw.var _ k1' (by omega)
  | exact hw.var _ k0' (by omega)
  | exact hw
theorem iwrite_X {e:En} (he:EnB e) (hok:endOk e=true) {wire:List UInt8} (hw:wire.length≤1100000) {S:List Blk} {p:XP} (h:EX S p e):VCall Tryz.prog 105 [.agg (pE p e),.str wire] S fun r S' =>
  ∃v,r=.tup [v,.str (if e.bad=false∧wire.length+(writeM e).2.length≤800 then wire++(writeM e).2 else wire)]∧RX S' (if e.bad=false∧wire.length+(writeM e).2.length≤800 then (writeM e).1 else e) v∧Upd [] S S':=by
 have hcon:=fun X=>EndWrite_R false he (h.app X)
 have hW:=endOk_w hok
 have hol:=writeM_len hW
 obtain ⟨o1,i1,o2,i2,o3,i3⟩:=h.facts
 refine VCall.en hDe Tryz.func105 Tryz.ntmps105 Tryz.results105 ?_
 simp -implicitDefEqProofs (disch:=omega) only [push_cast,simprocAttr,o1,i1,o2,i2,↓gd]
 refine ((hcon _).as (by simp [xV,enX,o1,i1,o2,i2,o3,i3])).mono ?_
 rintro r S1 ⟨v,rfl,q0⟩
 obtain ⟨⟨p1,rfl,q1⟩,hu1⟩:=q0.rx
 have k0:S1[S.length]?=some (.cells 0 (pE p e)):=hu1.get (by simp -implicitDefEqProofs (disch:=omega) only [push_cast,simprocAttr,↓gd]) (by simp)
 have k1:S1[S.length+1]?=some (.cells 0 zE):=hu1.get (by simp -implicitDefEqProofs (disch:=omega) only [push_cast,simprocAttr,↓gd]) (by simp)
 have l0:=lt_of_some k0
 have l1:=lt_of_some k1
 have hm:endWriteM e=if e.bad then (e,[]) else writeM e:=by rw [endWriteM,if_neg (by rw [hok]; simp)]
 have hu:Upd [] S S1:=((Upd.refl [] S).app _).trans hu1
 have hst:EX S1 p e:=h.upd hu
 rcases Bool.eq_false_or_eq_true e.bad with hb | hb
 ·rw [if_pos hb] at hm
  rw [hm] at q1 ⊢
  rw [if_neg (by rw [hb]; simp),if_neg (by rw [hb]; simp)]
  obtain ⟨w1,w2,w3,w4,w5,w6⟩:=q1.facts
  simp -implicitDefEqProofs (disch:=omega) only [push_cast,simprocAttr,k0,k1,hb,o1,i1,o2,i2,w1,w2,w3,w4,↓gd]
  exact ⟨_,_,Wk.refl _ _ _,_,rfl,⟨p,by simp [pE,enX,hb],(hst.var _ k1).app _⟩,(hu.set _ (.inl (by omega))).app _⟩
 ·rw [if_neg (by rw [hb]; simp)] at hm
  rw [hm] at q1 ⊢
  generalize writeM e=y at *
  obtain ⟨y,o⟩:=y
  simp only at *
  obtain ⟨w1,w2,w3,w4,w5,w6⟩:=q1.facts
  by_cases hl:(wire.length:Int)+o.length > 800
  ·rw [if_neg (by omega),if_neg (by omega)]
   simp -implicitDefEqProofs (disch:=omega) only [push_cast,simprocAttr,k0,k1,hb,hl,o1,i1,o2,i2,w1,w2,w3,w4,↓gd]
   exact ⟨_,_,Wk.refl _ _ _,_,rfl,⟨p,by simp [pE,enX,hb],(hst.var _ k1).app _⟩,(hu.set _ (.inl (by omega))).app _⟩
  ·rw [if_pos ⟨hb,by omega⟩,if_pos ⟨hb,by omega⟩]
   simp -implicitDefEqProofs (disch:=omega) only [push_cast,simprocAttr,k0,k1,hb,hl,o1,i1,o2,i2,w1,w2,w3,w4,↓gd]
   repeat refine And.intro (by omega) ?_
   exact ⟨_,_,Wk.refl _ _ _,_,rfl,⟨p1,rfl,(q1.var _ k1).app _⟩,(hu.set _ (.inl (by omega))).app _⟩
theorem ipass_X {e:En} (he:EnB e) (hok:endOk e=true) {wire:List UInt8} (hw:wire.length≤1100000) (n:Int) {S:List Blk} {p:XP} (h:EX S p e):VCall Tryz.prog 106 [.agg (pE p e),.str wire,.int .i64 n] S fun r S' =>
  ∃v,r=.tup [v,.str (if 0≤n∧n≤90 then wire.drop n.toNat else wire)]∧RX S' (if 0≤n∧n≤90 then hearWM e (wire.take n.toNat) else e) v∧Upd [] S S':=by
 obtain ⟨o1,i1,o2,i2,o3,i3⟩:=h.facts
 refine VCall.ex hDe (fun _=>false) (fun id=>if id=4 then [4,4,4,4,8,10,10,10,10,10] else []) Tryz.func106 Tryz.ntmps106 Tryz.results106 ?_
 simp -implicitDefEqProofs (disch:=omega) only [push_cast,simprocAttr,o1,i1,o2,i2,↓gd]
 by_cases hin:0≤n∧n≤90
 ·rw [if_pos hin,if_pos hin]
  refine (in_t hin _).to ?_
  have emin:(if (wire.length:Int) < n then (wire.length:Int) else n)=((min n.toNat wire.length:Nat):Int):=by omega
  have etk:wire.take (min n.toNat wire.length)=wire.take n.toNat:=by rw [List.take_eq_take_iff]; omega
  have edr:wire.drop (min n.toNat wire.length)=wire.drop n.toNat:=by
   rw [List.drop_eq_drop_iff]; omega
  have hcon:=fun S2 (g:EX S2 p e)=>EndHear_R false he (wire.take n.toNat) (by rw [List.length_take]; omega) (S:=S2) g
  simp -implicitDefEqProofs (disch:=omega) only [push_cast,simprocAttr,emin,etk,o1,i1,o2,i2,↓gd]
  repeat refine And.intro (by omega) ?_
  refine ((hcon _ (h.app _)).as (by simp [xV,enX,List.drop_zero,o1,i1,o2,i2,o3,i3])).mono ?_
  rintro r S1 q0
  obtain ⟨⟨p1,rfl,q1⟩,hu1⟩:=q0.rx
  have hm:endHearM e (wire.take n.toNat)=hearWM e (wire.take n.toNat):=by
   rw [endHearM,if_neg]
   rw [hok,List.length_take]
   rintro (q | q)
   ·cases q
   ·omega
  rw [hm] at q1 ⊢
  have k1:S1[S.length+1]?=some (.cells 0 zE):=hu1.get (by simp -implicitDefEqProofs (disch:=omega) only [push_cast,simprocAttr,↓gd]) (by simp)
  have l1:=lt_of_some k1
  have hu:Upd [] S S1:=((Upd.refl [] S).app _).trans hu1
  generalize hearWM e (wire.take n.toNat)=y at *
  obtain ⟨w1,w2,w3,w4,w5,w6⟩:=q1.facts
  simp -implicitDefEqProofs (disch:=omega) only [push_cast,simprocAttr,k1,edr,List.take_length,w1,w2,w3,w4,↓gd]
  repeat refine And.intro (by omega) ?_
  exact ⟨_,_,Wk.refl _ _ _,_,rfl,⟨p1,rfl,q1.var _ k1⟩,hu.set _ (.inl (by omega))⟩
 ·rw [if_neg hin,if_neg hin]
  refine (in_f hin _).to ?_
  simp -implicitDefEqProofs (disch:=omega) only [push_cast,simprocAttr,o1,i1,o2,i2,↓gd]
  exact ⟨_,_,Wk.refl _ _ _,_,rfl,⟨p,rfl,h.app _⟩,(Upd.refl _ _).app _⟩
end
section
open Go
theorem do_ok {w:Wo} (hB:WoB w) (hc:endOk w.caller=true) (ha:endOk w.answerer=true) (v:Ev) (hv:EvB v) {S:List Blk} {b c d f:Nat} (h:WoAt S b c d f w):VCall Tryz.prog 59 [wV b c d f w,evV v] S fun r S'=>RWTo S b c d f (doM w v) r S'∧Upd [] S S':=by
 obtain ⟨n1,n2,n3,n4,n5,n6,n7,n8⟩:=h.nes
 have hup:=hB.up
 have hdn:=hB.down
 have hcon1:=fun X=>EndCall_ok hB.caller v.path v.text hv.1 hv.2 (h.caller.app X)
 have hcon2:=fun X=>EndLeave_ok hB.caller v.a (h.caller.app X)
 have hcon3:=fun X=>iwrite_ok hB.caller hc hup (h.caller.app X)
 have hcon4:=fun X=>iwrite_ok hB.answerer ha hdn (h.answerer.app X)
 have hcon5:=fun X=>ipass_ok hB.answerer ha hup v.b (h.answerer.app X)
 have hcon6:=fun X=>ipass_ok hB.caller hc hdn v.b (h.caller.app X)
 refine VCall.en hDe Tryz.func59 Tryz.ntmps59 Tryz.results59 ?_
 by_cases k1:v.kind=1
 ·rw [doM_kinds w v 1 k1,if_pos rfl]
  simp -implicitDefEqProofs (maxSteps:=1000000) (disch:=omega) only [push_cast,simprocAttr,k1,↓gd]
  refine ((hcon1 _).as (by simp [eV,enV,enC])).mono ?_
  rintro r S1 ⟨u,rfl,b1,c1,rfl,q1⟩
  have e1:endCallM w.caller v.path v.text=callM w.caller v.path v.text:=by rw [endCallM,if_neg (by rw [hc]; simp)]
  rw [e1] at q1 ⊢
  have q0:S1[S.length]?=some (.cells 0 (wC b c d f w)):=q1.upd.get (by simp -implicitDefEqProofs (maxSteps:=1000000) (disch:=omega) only [push_cast,simprocAttr,↓gd]) (by simp)
  have q2:S1[S.length+2]?=some (.cells 0 zW):=q1.upd.get (by simp -implicitDefEqProofs (maxSteps:=1000000) (disch:=omega) only [push_cast,simprocAttr,↓gd]) (by simp)
  have l0:=lt_of_some q0
  have l2:=lt_of_some q2
  have h0:=h.caller_to (q1.app.toTo b c)
  have hst:=WoTo.still h q1.app.upd
  have hu:=q1.app.upd
  have v0:=h0.at_.var q0
  have v2:=h0.at_.var q2
  have v2':=hst.at_.var q2
  have hfail:(callM w.caller v.path v.text).2.2=false→(callM w.caller v.path v.text).1=w.caller:=by
   unfold callM
   split
   ·exact fun _=>rfl
   ·exact fun q=>by cases q
  generalize callM w.caller v.path v.text=y at *
  obtain ⟨y,i,ok⟩:=y
  simp only at *
  cases ok
  ·have e:=hfail rfl
   subst e
   simp -implicitDefEqProofs (maxSteps:=1000000) (disch:=omega) only [push_cast,simprocAttr,q0,q2,k1,↓gd]
   exact ⟨_,_,Wk.refl _ _ _,⟨b,c,d,f,rfl,(hst.set (j:=S.length+2) _ (by omega) v2').appR _⟩,(hu.set _ (.inl (by omega))).app _⟩
  ·simp -implicitDefEqProofs (maxSteps:=1000000) (disch:=omega) only [push_cast,simprocAttr,q0,q2,k1,↓gd]
   exact ⟨_,_,Wk.refl _ _ _,⟨b1,c1,d,f,rfl,((h0.set (j:=S.length) _ (by omega) v0).set (j:=S.length+2) _ (by omega) v2).appR _⟩,((hu.set _ (.inl (by omega))).set _ (.inl (by omega))).app _⟩
 by_cases k2:v.kind=2
 ·rw [doM_kinds w v 2 k2,if_neg (by decide),if_pos rfl]
  simp -implicitDefEqProofs (maxSteps:=1000000) (disch:=omega) only [push_cast,simprocAttr,k1,k2,↓gd]
  refine ((hcon2 _).as (by simp [eV,enV,enC])).mono ?_
  rintro r S1 ⟨u,rfl,b1,c1,rfl,q1⟩
  have e1:endLeaveM w.caller v.a=leaveM w.caller v.a:=by rw [endLeaveM,if_neg (by rw [hc]; simp)]
  rw [e1] at q1 ⊢
  have q0:S1[S.length]?=some (.cells 0 (wC b c d f w)):=q1.upd.get (by simp -implicitDefEqProofs (maxSteps:=1000000) (disch:=omega) only [push_cast,simprocAttr,↓gd]) (by simp)
  have q2:S1[S.length+2]?=some (.cells 0 zW):=q1.upd.get (by simp -implicitDefEqProofs (maxSteps:=1000000) (disch:=omega) only [push_cast,simprocAttr,↓gd]) (by simp)
  have l0:=lt_of_some q0
  have l2:=lt_of_some q2
  have h0:=h.caller_to (q1.app.toTo b c)
  have hst:=WoTo.still h q1.app.upd
  have hu:=q1.app.upd
  have v0:=h0.at_.var q0
  have v2:=h0.at_.var q2
  have v2':=hst.at_.var q2
  have hfail:(leaveM w.caller v.a).2=false→(leaveM w.caller v.a).1=w.caller:=by
   unfold leaveM
   split
   ·exact fun _=>rfl
   ·split
    ·exact fun _=>rfl
    ·exact fun q=>by cases q
  generalize leaveM w.caller v.a=y at *
  obtain ⟨y,ok⟩:=y
  simp only at *
  cases ok
  ·have e:=hfail rfl
   subst e
   simp -implicitDefEqProofs (maxSteps:=1000000) (disch:=omega) only [push_cast,simprocAttr,q0,q2,k2,↓gd]
   exact ⟨_,_,Wk.refl _ _ _,⟨b,c,d,f,rfl,(hst.set (j:=S.length+2) _ (by omega) v2').appR _⟩,(hu.set _ (.inl (by omega))).app _⟩
  ·simp -implicitDefEqProofs (maxSteps:=1000000) (disch:=omega) only [push_cast,simprocAttr,q0,q2,k2,↓gd]
   exact ⟨_,_,Wk.refl _ _ _,⟨b1,c1,d,f,rfl,((h0.set (j:=S.length) _ (by omega) v0).set (j:=S.length+2) _ (by omega) v2).appR _⟩,((hu.set _ (.inl (by omega))).set _ (.inl (by omega))).app _⟩
 by_cases k3:v.kind=3
 ·rw [doM_kinds w v 3 k3,if_neg (by decide),if_neg (by decide),if_pos rfl]
  by_cases a0:v.a=0
  ·have hm:sayWM w v.a={ w with caller:=if w.caller.bad=false∧w.up.length+(writeM w.caller).2.length≤800 then (writeM w.caller).1 else w.caller,up:=if w.caller.bad=false∧w.up.length+(writeM w.caller).2.length≤800 then w.up++(writeM w.caller).2 else w.up }:=by
    rw [sayWM,if_pos a0]
    split <;> rfl
   rw [hm]
   simp -implicitDefEqProofs (maxSteps:=1000000) (disch:=omega) only [push_cast,simprocAttr,k1,k2,k3,a0,↓gd]
   refine ((hcon3 _).as (by simp [eV,enV,enC])).mono ?_
   rintro r S1 ⟨u,rfl,⟨b1,c1,rfl,q1⟩,hu1⟩
   have hu:Upd [] S S1:=((Upd.refl [] S).app _).trans hu1
   have q0:S1[S.length]?=some (.cells 0 (wC b c d f w)):=q1.upd.get (by simp -implicitDefEqProofs (maxSteps:=1000000) (disch:=omega) only [push_cast,simprocAttr,↓gd]) (by simp; omega)
   have q2:S1[S.length+2]?=some (.cells 0 zW):=q1.upd.get (by simp -implicitDefEqProofs (maxSteps:=1000000) (disch:=omega) only [push_cast,simprocAttr,↓gd]) (by simp; omega)
   have l0:=lt_of_some q0
   have l2:=lt_of_some q2
   have h0:=h.caller_to q1.app
   have v0:=h0.at_.var q0
   have v2:=h0.at_.var q2
   generalize (if w.caller.bad=false∧w.up.length+(writeM w.caller).2.length≤800 then (writeM w.caller).1 else w.caller)=y at *
   generalize (if w.caller.bad=false∧w.up.length+(writeM w.caller).2.length≤800 then w.up++(writeM w.caller).2 else w.up)=o at *
   have h1:=h0.withUp o w.down
   simp -implicitDefEqProofs (maxSteps:=1000000) (disch:=omega) only [push_cast,simprocAttr,q0,q2,k3,↓gd]
   exact ⟨_,_,Wk.refl _ _ _,⟨b1,c1,d,f,rfl,((h1.set (j:=S.length) _ (by omega) v0).set (j:=S.length+2) _ (by omega) v2)⟩,(hu.set _ (.inl (by omega))).set _ (.inl (by omega))⟩
  ·by_cases a1:v.a=1
   ·have hm:sayWM w v.a={ w with answerer:=if w.answerer.bad=false∧w.down.length+(writeM w.answerer).2.length≤800 then (writeM w.answerer).1 else w.answerer,down:=if w.answerer.bad=false∧w.down.length+(writeM w.answerer).2.length≤800 then w.down++(writeM w.answerer).2 else w.down }:=by
     rw [sayWM,if_neg a0,if_pos a1]
     split <;> rfl
    rw [hm]
    simp -implicitDefEqProofs (maxSteps:=1000000) (disch:=omega) only [push_cast,simprocAttr,k1,k2,k3,a0,a1,↓gd]
    refine ((hcon4 _).as (by simp [eV,enV,enC])).mono ?_
    rintro r S1 ⟨u,rfl,⟨d1,f1,rfl,q1⟩,hu1⟩
    have hu:Upd [] S S1:=((Upd.refl [] S).app _).trans hu1
    have q0:S1[S.length]?=some (.cells 0 (wC b c d f w)):=q1.upd.get (by simp -implicitDefEqProofs (maxSteps:=1000000) (disch:=omega) only [push_cast,simprocAttr,↓gd]) (by simp; omega)
    have q2:S1[S.length+2]?=some (.cells 0 zW):=q1.upd.get (by simp -implicitDefEqProofs (maxSteps:=1000000) (disch:=omega) only [push_cast,simprocAttr,↓gd]) (by simp; omega)
    have l0:=lt_of_some q0
    have l2:=lt_of_some q2
    have h0:=h.answerer_to q1.app
    have v0:=h0.at_.var q0
    have v2:=h0.at_.var q2
    generalize (if w.answerer.bad=false∧w.down.length+(writeM w.answerer).2.length≤800 then (writeM w.answerer).1 else w.answerer)=y at *
    generalize (if w.answerer.bad=false∧w.down.length+(writeM w.answerer).2.length≤800 then w.down++(writeM w.answerer).2 else w.down)=o at *
    have h1:=h0.withUp w.up o
    simp -implicitDefEqProofs (maxSteps:=1000000) (disch:=omega) only [push_cast,simprocAttr,q0,q2,k3,↓gd]
    exact ⟨_,_,Wk.refl _ _ _,⟨b,c,d1,f1,rfl,((h1.set (j:=S.length) _ (by omega) v0).set (j:=S.length+2) _ (by omega) v2)⟩,(hu.set _ (.inl (by omega))).set _ (.inl (by omega))⟩
   ·have hm:sayWM w v.a=w:=by rw [sayWM,if_neg a0,if_neg a1]
    rw [hm]
    simp -implicitDefEqProofs (maxSteps:=1000000) (disch:=omega) only [push_cast,simprocAttr,k1,k2,k3,a0,a1,↓gd]
    exact ⟨_,_,Wk.refl _ _ _,⟨b,c,d,f,rfl,.stay h⟩,(Upd.refl _ _).app _⟩
 by_cases k4:v.kind=4
 ·rw [doM_kinds w v 4 k4,if_neg (by decide),if_neg (by decide),if_neg (by decide),if_pos rfl]
  by_cases a0:v.a=0
  ·have hm:passM w v.a v.b={ w with answerer:=if 0≤v.b∧v.b≤90 then hearWM w.answerer (w.up.take v.b.toNat) else w.answerer,up:=if 0≤v.b∧v.b≤90 then w.up.drop v.b.toNat else w.up }:=by
    rw [passM]
    by_cases q:0≤v.b∧v.b≤90
    ·simp only [if_pos q,if_pos a0]
    ·simp only [if_neg q]
   rw [hm]
   simp -implicitDefEqProofs (maxSteps:=1000000) (disch:=omega) only [push_cast,simprocAttr,k1,k2,k3,k4,a0,↓gd]
   refine ((hcon5 _).as (by simp [eV,enV,enC])).mono ?_
   rintro r S1 ⟨u,rfl,⟨d1,f1,rfl,q1⟩,hu1⟩
   have hu:Upd [] S S1:=((Upd.refl [] S).app _).trans hu1
   have q0:S1[S.length]?=some (.cells 0 (wC b c d f w)):=q1.upd.get (by simp -implicitDefEqProofs (maxSteps:=1000000) (disch:=omega) only [push_cast,simprocAttr,↓gd]) (by simp; omega)
   have q2:S1[S.length+2]?=some (.cells 0 zW):=q1.upd.get (by simp -implicitDefEqProofs (maxSteps:=1000000) (disch:=omega) only [push_cast,simprocAttr,↓gd]) (by simp; omega)
   have l0:=lt_of_some q0
   have l2:=lt_of_some q2
   have h0:=h.answerer_to q1.app
   have v0:=h0.at_.var q0
   have v2:=h0.at_.var q2
   generalize (if 0≤v.b∧v.b≤90 then hearWM w.answerer (w.up.take v.b.toNat) else w.answerer)=y at *
   generalize (if 0≤v.b∧v.b≤90 then w.up.drop v.b.toNat else w.up)=o at *
   have h1:=h0.withUp o w.down
   simp -implicitDefEqProofs (maxSteps:=1000000) (disch:=omega) only [push_cast,simprocAttr,q0,q2,k4,↓gd]
   exact ⟨_,_,Wk.refl _ _ _,⟨b,c,d1,f1,rfl,((h1.set (j:=S.length) _ (by omega) v0).set (j:=S.length+2) _ (by omega) v2)⟩,(hu.set _ (.inl (by omega))).set _ (.inl (by omega))⟩
  ·by_cases a1:v.a=1
   ·have hm:passM w v.a v.b={ w with caller:=if 0≤v.b∧v.b≤90 then hearWM w.caller (w.down.take v.b.toNat) else w.caller,down:=if 0≤v.b∧v.b≤90 then w.down.drop v.b.toNat else w.down }:=by
     rw [passM]
     by_cases q:0≤v.b∧v.b≤90
     ·simp only [if_pos q,if_neg a0,if_pos a1]
     ·simp only [if_neg q]
    rw [hm]
    simp -implicitDefEqProofs (maxSteps:=1000000) (disch:=omega) only [push_cast,simprocAttr,k1,k2,k3,k4,a0,a1,↓gd]
    refine ((hcon6 _).as (by simp [eV,enV,enC])).mono ?_
    rintro r S1 ⟨u,rfl,⟨b1,c1,rfl,q1⟩,hu1⟩
    have hu:Upd [] S S1:=((Upd.refl [] S).app _).trans hu1
    have q0:S1[S.length]?=some (.cells 0 (wC b c d f w)):=q1.upd.get (by simp -implicitDefEqProofs (maxSteps:=1000000) (disch:=omega) only [push_cast,simprocAttr,↓gd]) (by simp; omega)
    have q2:S1[S.length+2]?=some (.cells 0 zW):=q1.upd.get (by simp -implicitDefEqProofs (maxSteps:=1000000) (disch:=omega) only [push_cast,simprocAttr,↓gd]) (by simp; omega)
    have l0:=lt_of_some q0
    have l2:=lt_of_some q2
    have h0:=h.caller_to q1.app
    have v0:=h0.at_.var q0
    have v2:=h0.at_.var q2
    generalize (if 0≤v.b∧v.b≤90 then hearWM w.caller (w.down.take v.b.toNat) else w.caller)=y at *
    generalize (if 0≤v.b∧v.b≤90 then w.down.drop v.b.toNat else w.down)=o at *
    have h1:=h0.withUp w.up o
    simp -implicitDefEqProofs (maxSteps:=1000000) (disch:=omega) only [push_cast,simprocAttr,q0,q2,k4,↓gd]
    exact ⟨_,_,Wk.refl _ _ _,⟨b1,c1,d,f,rfl,((h1.set (j:=S.length) _ (by omega) v0).set (j:=S.length+2) _ (by omega) v2)⟩,(hu.set _ (.inl (by omega))).set _ (.inl (by omega))⟩
   ·have hm:passM w v.a v.b=w:=by
     rw [passM]
     by_cases q:0≤v.b∧v.b≤90
     ·simp only [if_pos q,if_neg a0,if_neg a1]
     ·simp only [if_neg q]
    rw [hm]
    simp -implicitDefEqProofs (maxSteps:=1000000) (disch:=omega) only [push_cast,simprocAttr,k1,k2,k3,k4,a0,a1,↓gd]
    exact ⟨_,_,Wk.refl _ _ _,⟨b,c,d,f,rfl,.stay h⟩,(Upd.refl _ _).app _⟩
 rw [doM_kinds w v v.kind rfl,if_neg k1,if_neg k2,if_neg k3,if_neg k4]
 simp -implicitDefEqProofs (maxSteps:=1000000) (disch:=omega) only [push_cast,simprocAttr,k1,k2,k3,k4,↓gd]
 exact ⟨_,_,Wk.refl _ _ _,⟨b,c,d,f,rfl,.stay h⟩,(Upd.refl _ _).app _⟩
theorem woOk_parts {w:Wo} (h:woOk w=true):endOk w.caller=true∧endOk w.answerer=true:=by
 simp only [woOk,Bool.and_eq_true] at h
 exact ⟨by simp_all,by simp_all⟩
theorem WorldDo_ok {w:Wo} (hB:WoB w) (v:Ev) (hv:EvB v) {S:List Blk} {b c d f:Nat} (h:WoAt S b c d f w):VCall Tryz.prog 19 [wV b c d f w,evV v] S fun r S'=>RWNew S (worldDoM w v) r S':=by
 have hok:=fun X=>WorldOk_ok hB (h.app X)
 refine VCall.en hDe Tryz.func19 Tryz.ntmps19 Tryz.results19 ?_
 simp -implicitDefEqProofs (maxSteps:=1000000) (disch:=omega) only [push_cast,simprocAttr,↓gd]
 refine ((hok _).as (by simp [wV,wC,enC])).to ?_
 cases hE:woOk w
 ·rw [worldDoM,if_pos hE]
  simp -implicitDefEqProofs (maxSteps:=1000000) (disch:=omega) only [push_cast,simprocAttr,↓gd]
  exact RWNew.zero
 ·rw [worldDoM,if_neg (by rw [hE]; simp)]
  have hp:=woOk_parts hE
  have hdo:=fun X=>do_ok hB hp.1 hp.2 v hv (h.app X)
  have hW:=doM_w (woOk_w hE |>.mono (show 60≤642 by decide)) (by decide) v
  simp -implicitDefEqProofs (maxSteps:=1000000) (disch:=omega) only [push_cast,simprocAttr,↓gd]
  refine ((hdo _).as (by simp [wV,wC,enC,evV])).mono ?_
  rintro r S1 ⟨⟨b1,c1,d1,f1,rfl,q1⟩,hu1⟩
  have hu:Upd [] S S1:=((Upd.refl [] S).app _).trans hu1
  have k0:S1[S.length]?=some (.cells 0 (wC b c d f w)):=q1.upd.get (by simp -implicitDefEqProofs (maxSteps:=1000000) (disch:=omega) only [push_cast,simprocAttr,↓gd]) (by simp; have:=h.nes; omega)
  have k2:S1[S.length+2]?=some (.cells 0 zW):=q1.upd.get (by simp -implicitDefEqProofs (maxSteps:=1000000) (disch:=omega) only [push_cast,simprocAttr,↓gd]) (by simp; have:=h.nes; omega)
  have k0':=k0
  have k1:S1[S.length+1]?=some (.cells 0 [.int .i64 v.kind,.int .i64 v.a,.int .i64 v.b,.str v.path,.str v.text]):=q1.upd.get (by simp -implicitDefEqProofs (maxSteps:=1000000) (disch:=omega) only [push_cast,simprocAttr,↓gd]) (by simp; have:=h.nes; omega)
  have l2:=lt_of_some k2
  have hy:=hW.b (by decide)
  have hat:=q1.at_
  generalize doM w v=y at *
  simp -implicitDefEqProofs (maxSteps:=1000000) (disch:=omega) only [push_cast,simprocAttr,k0,k1,k2,↓gd]
  refine ((wclone_ok hy hat).as (by simp [wV,wC,enC])).mono ?_
  rintro r S2 ⟨b2,c2,d2,f2,rfl,q2⟩
  have k2':=q2.upd.get k2 (by simp)
  have l2':=lt_of_some k2'
  have v2:=q2.at_.var k2'
  have e1:=q2.hb; have e2:=q2.hc; have e3:=q2.hd; have e4:=q2.hf
  have e5:=q1.upd.1
  simp at e5
  simp -implicitDefEqProofs (maxSteps:=1000000) (disch:=omega) only [push_cast,simprocAttr,k2',↓gd]
  exact ⟨_,_,Wk.refl _ _ _,b2,c2,d2,f2,rfl,⟨q2.at_.set _ v2,by omega,by omega,by omega,by omega,(hu.trans q2.upd).set _ (.inl (by omega))⟩⟩
end
section
open Go
theorem do_X {w:Wo} (hB:WoB w) (hc:endOk w.caller=true) (ha:endOk w.answerer=true) (v:Ev) (hv:EvB v) {S:List Blk} {p q:XP} (h:WX S p q w):VCall Tryz.prog 59 [pV p q w,evV v] S fun r S'=>RWX S' (doM w v) r∧Upd [] S S':=by
 obtain ⟨o1,i1,o2,i2,o3,i3⟩:=h.caller.facts
 obtain ⟨o4,i4,o5,i5,o6,i6⟩:=h.answerer.facts
 have hup:=hB.up
 have hdn:=hB.down
 have hcon1:=fun X=>EndCall_X hB.caller v.path v.text hv.1 hv.2 (h.caller.app X)
 have hcon2:=fun X=>EndLeave_X hB.caller v.a (h.caller.app X)
 have hcon3:=fun X=>iwrite_X hB.caller hc hup (h.caller.app X)
 have hcon4:=fun X=>iwrite_X hB.answerer ha hdn (h.answerer.app X)
 have hcon5:=fun X=>ipass_X hB.answerer ha hup v.b (h.answerer.app X)
 have hcon6:=fun X=>ipass_X hB.caller hc hdn v.b (h.caller.app X)
 refine VCall.en hDe Tryz.func59 Tryz.ntmps59 Tryz.results59 ?_
 by_cases k1:v.kind=1
 ·rw [doM_kinds w v 1 k1,if_pos rfl]
  simp -implicitDefEqProofs (maxSteps:=1000000) (disch:=omega) only [push_cast,simprocAttr,k1,o1,i1,o2,i2,o4,i4,o5,i5,↓gd]
  refine ((hcon1 _).as (by simp [xV,pE,enX,o1,i1,o2,i2,o3,i3,o4,i4,o5,i5,o6,i6])).mono ?_
  rintro r S1 ⟨u,rfl,b1,c1,rfl,q1⟩
  have hu:Upd [] S S1:=((Upd.refl [] S).app _).trans q1.upd
  have e1:endCallM w.caller v.path v.text=callM w.caller v.path v.text:=by rw [endCallM,if_neg (by rw [hc]; simp)]
  rw [e1] at q1 ⊢
  have q0:S1[S.length]?=some (.cells 0 (pC p q w)):=q1.upd.get (by simp -implicitDefEqProofs (maxSteps:=1000000) (disch:=omega) only [push_cast,simprocAttr,↓gd]) (by simp)
  have q2:S1[S.length+2]?=some (.cells 0 zW):=q1.upd.get (by simp -implicitDefEqProofs (maxSteps:=1000000) (disch:=omega) only [push_cast,simprocAttr,↓gd]) (by simp)
  have l0:=lt_of_some q0
  have l2:=lt_of_some q2
  have hst:=h.upd hu
  have hx:=q1.at_.x
  have hfail:(callM w.caller v.path v.text).2.2=false→(callM w.caller v.path v.text).1=w.caller:=by
   unfold callM
   split
   ·exact fun _=>rfl
   ·exact fun q=>by cases q
  generalize callM w.caller v.path v.text=y at *
  obtain ⟨y,i,ok⟩:=y
  simp only at *
  cases ok
  ·have e:=hfail rfl
   subst e
   simp -implicitDefEqProofs (maxSteps:=1000000) (disch:=omega) only [push_cast,simprocAttr,q0,q2,k1,o1,i1,o2,i2,o4,i4,o5,i5,↓gd]
   exact ⟨_,_,Wk.refl _ _ _,⟨p,q,rfl,(hst.var _ q2).app _⟩,(hu.set _ (.inl (by omega))).app _⟩
  ·simp -implicitDefEqProofs (maxSteps:=1000000) (disch:=omega) only [push_cast,simprocAttr,q0,q2,k1,o1,i1,o2,i2,o4,i4,o5,i5,↓gd]
   have hw:WX S1 ⟨_,_,b1,c1,_⟩ q { w with caller:=y }:=⟨hx,hst.answerer⟩
   exact ⟨_,_,Wk.refl _ _ _,⟨⟨_,_,b1,c1,_⟩,q,rfl,((hw.var _ q0).var _ (by rw [List.getElem?_set_ne (by omega)]; exact q2)).app _⟩,((hu.set _ (.inl (by omega))).set _ (.inl (by omega))).app _⟩
 by_cases k2:v.kind=2
 ·rw [doM_kinds w v 2 k2,if_neg (by decide),if_pos rfl]
  simp -implicitDefEqProofs (maxSteps:=1000000) (disch:=omega) only [push_cast,simprocAttr,k1,k2,o1,i1,o2,i2,o4,i4,o5,i5,↓gd]
  refine ((hcon2 _).as (by simp [xV,pE,enX,o1,i1,o2,i2,o3,i3,o4,i4,o5,i5,o6,i6])).mono ?_
  rintro r S1 ⟨u,rfl,b1,c1,rfl,q1⟩
  have hu:Upd [] S S1:=((Upd.refl [] S).app _).trans q1.upd
  have e1:endLeaveM w.caller v.a=leaveM w.caller v.a:=by rw [endLeaveM,if_neg (by rw [hc]; simp)]
  rw [e1] at q1 ⊢
  have q0:S1[S.length]?=some (.cells 0 (pC p q w)):=q1.upd.get (by simp -implicitDefEqProofs (maxSteps:=1000000) (disch:=omega) only [push_cast,simprocAttr,↓gd]) (by simp)
  have q2:S1[S.length+2]?=some (.cells 0 zW):=q1.upd.get (by simp -implicitDefEqProofs (maxSteps:=1000000) (disch:=omega) only [push_cast,simprocAttr,↓gd]) (by simp)
  have l0:=lt_of_some q0
  have l2:=lt_of_some q2
  have hst:=h.upd hu
  have hx:=q1.at_.x
  have hfail:(leaveM w.caller v.a).2=false→(leaveM w.caller v.a).1=w.caller:=by
   unfold leaveM
   split
   ·exact fun _=>rfl
   ·split
    ·exact fun _=>rfl
    ·exact fun q=>by cases q
  generalize leaveM w.caller v.a=y at *
  obtain ⟨y,ok⟩:=y
  simp only at *
  cases ok
  ·have e:=hfail rfl
   subst e
   simp -implicitDefEqProofs (maxSteps:=1000000) (disch:=omega) only [push_cast,simprocAttr,q0,q2,k2,o1,i1,o2,i2,o4,i4,o5,i5,↓gd]
   exact ⟨_,_,Wk.refl _ _ _,⟨p,q,rfl,(hst.var _ q2).app _⟩,(hu.set _ (.inl (by omega))).app _⟩
  ·simp -implicitDefEqProofs (maxSteps:=1000000) (disch:=omega) only [push_cast,simprocAttr,q0,q2,k2,o1,i1,o2,i2,o4,i4,o5,i5,↓gd]
   have hw:WX S1 ⟨_,_,b1,c1,_⟩ q { w with caller:=y }:=⟨hx,hst.answerer⟩
   exact ⟨_,_,Wk.refl _ _ _,⟨⟨_,_,b1,c1,_⟩,q,rfl,((hw.var _ q0).var _ (by rw [List.getElem?_set_ne (by omega)]; exact q2)).app _⟩,((hu.set _ (.inl (by omega))).set _ (.inl (by omega))).app _⟩
 by_cases k3:v.kind=3
 ·rw [doM_kinds w v 3 k3,if_neg (by decide),if_neg (by decide),if_pos rfl]
  by_cases a0:v.a=0
  ·have hm:sayWM w v.a={ w with caller:=if w.caller.bad=false∧w.up.length+(writeM w.caller).2.length≤800 then (writeM w.caller).1 else w.caller,up:=if w.caller.bad=false∧w.up.length+(writeM w.caller).2.length≤800 then w.up++(writeM w.caller).2 else w.up }:=by
    rw [sayWM,if_pos a0]
    split <;> rfl
   rw [hm]
   simp -implicitDefEqProofs (maxSteps:=1000000) (disch:=omega) only [push_cast,simprocAttr,k1,k2,k3,a0,o1,i1,o2,i2,o4,i4,o5,i5,↓gd]
   refine ((hcon3 _).as (by simp [xV,pE,enX,o1,i1,o2,i2,o3,i3,o4,i4,o5,i5,o6,i6])).mono ?_
   rintro r S1 ⟨u,rfl,⟨p1,rfl,q1⟩,hu1⟩
   have hu:Upd [] S S1:=((Upd.refl [] S).app _).trans hu1
   have q0:S1[S.length]?=some (.cells 0 (pC p q w)):=hu1.get (by simp -implicitDefEqProofs (maxSteps:=1000000) (disch:=omega) only [push_cast,simprocAttr,↓gd]) (by simp)
   have q2:S1[S.length+2]?=some (.cells 0 zW):=hu1.get (by simp -implicitDefEqProofs (maxSteps:=1000000) (disch:=omega) only [push_cast,simprocAttr,↓gd]) (by simp)
   have l0:=lt_of_some q0
   have l2:=lt_of_some q2
   have hst:=h.upd hu
   generalize (if w.caller.bad=false∧w.up.length+(writeM w.caller).2.length≤800 then (writeM w.caller).1 else w.caller)=y at *
   generalize (if w.caller.bad=false∧w.up.length+(writeM w.caller).2.length≤800 then w.up++(writeM w.caller).2 else w.up)=o at *
   obtain ⟨w1,w2,w3,w4,w5,w6⟩:=q1.facts
   have hw:WX S1 p1 q { w with caller:=y,up:=o,down:=w.down }:=⟨q1,hst.answerer⟩
   simp -implicitDefEqProofs (maxSteps:=1000000) (disch:=omega) only [push_cast,simprocAttr,q0,q2,k3,w1,w2,w3,w4,o1,i1,o2,i2,o4,i4,o5,i5,↓gd]
   exact ⟨_,_,Wk.refl _ _ _,⟨p1,q,rfl,(hw.var _ q0).var _ (by rw [List.getElem?_set_ne (by omega)]; exact q2)⟩,(hu.set _ (.inl (by omega))).set _ (.inl (by omega))⟩
  ·by_cases a1:v.a=1
   ·have hm:sayWM w v.a={ w with answerer:=if w.answerer.bad=false∧w.down.length+(writeM w.answerer).2.length≤800 then (writeM w.answerer).1 else w.answerer,down:=if w.answerer.bad=false∧w.down.length+(writeM w.answerer).2.length≤800 then w.down++(writeM w.answerer).2 else w.down }:=by
     rw [sayWM,if_neg a0,if_pos a1]
     split <;> rfl
    rw [hm]
    simp -implicitDefEqProofs (maxSteps:=1000000) (disch:=omega) only [push_cast,simprocAttr,k1,k2,k3,a0,a1,o1,i1,o2,i2,o4,i4,o5,i5,↓gd]
    refine ((hcon4 _).as (by simp [xV,pE,enX,o1,i1,o2,i2,o3,i3,o4,i4,o5,i5,o6,i6])).mono ?_
    rintro r S1 ⟨u,rfl,⟨p1,rfl,q1⟩,hu1⟩
    have hu:Upd [] S S1:=((Upd.refl [] S).app _).trans hu1
    have q0:S1[S.length]?=some (.cells 0 (pC p q w)):=hu1.get (by simp -implicitDefEqProofs (maxSteps:=1000000) (disch:=omega) only [push_cast,simprocAttr,↓gd]) (by simp)
    have q2:S1[S.length+2]?=some (.cells 0 zW):=hu1.get (by simp -implicitDefEqProofs (maxSteps:=1000000) (disch:=omega) only [push_cast,simprocAttr,↓gd]) (by simp)
    have l0:=lt_of_some q0
    have l2:=lt_of_some q2
    have hst:=h.upd hu
    generalize (if w.answerer.bad=false∧w.down.length+(writeM w.answerer).2.length≤800 then (writeM w.answerer).1 else w.answerer)=y at *
    generalize (if w.answerer.bad=false∧w.down.length+(writeM w.answerer).2.length≤800 then w.down++(writeM w.answerer).2 else w.down)=o at *
    obtain ⟨w1,w2,w3,w4,w5,w6⟩:=q1.facts
    have hw:WX S1 p p1 { w with answerer:=y,up:=w.up,down:=o }:=⟨hst.caller,q1⟩
    simp -implicitDefEqProofs (maxSteps:=1000000) (disch:=omega) only [push_cast,simprocAttr,q0,q2,k3,w1,w2,w3,w4,o1,i1,o2,i2,o4,i4,o5,i5,↓gd]
    exact ⟨_,_,Wk.refl _ _ _,⟨p,p1,rfl,(hw.var _ q0).var _ (by rw [List.getElem?_set_ne (by omega)]; exact q2)⟩,(hu.set _ (.inl (by omega))).set _ (.inl (by omega))⟩
   ·have hm:sayWM w v.a=w:=by rw [sayWM,if_neg a0,if_neg a1]
    rw [hm]
    simp -implicitDefEqProofs (maxSteps:=1000000) (disch:=omega) only [push_cast,simprocAttr,k1,k2,k3,a0,a1,o1,i1,o2,i2,o4,i4,o5,i5,↓gd]
    exact ⟨_,_,Wk.refl _ _ _,⟨p,q,rfl,h.app _⟩,(Upd.refl _ _).app _⟩
 by_cases k4:v.kind=4
 ·rw [doM_kinds w v 4 k4,if_neg (by decide),if_neg (by decide),if_neg (by decide),if_pos rfl]
  by_cases a0:v.a=0
  ·have hm:passM w v.a v.b={ w with answerer:=if 0≤v.b∧v.b≤90 then hearWM w.answerer (w.up.take v.b.toNat) else w.answerer,up:=if 0≤v.b∧v.b≤90 then w.up.drop v.b.toNat else w.up }:=by
    rw [passM]
    by_cases q:0≤v.b∧v.b≤90
    ·simp only [if_pos q,if_pos a0]
    ·simp only [if_neg q]
   rw [hm]
   simp -implicitDefEqProofs (maxSteps:=1000000) (disch:=omega) only [push_cast,simprocAttr,k1,k2,k3,k4,a0,o1,i1,o2,i2,o4,i4,o5,i5,↓gd]
   refine ((hcon5 _).as (by simp [xV,pE,enX,o1,i1,o2,i2,o3,i3,o4,i4,o5,i5,o6,i6])).mono ?_
   rintro r S1 ⟨u,rfl,⟨p1,rfl,q1⟩,hu1⟩
   have hu:Upd [] S S1:=((Upd.refl [] S).app _).trans hu1
   have q0:S1[S.length]?=some (.cells 0 (pC p q w)):=hu1.get (by simp -implicitDefEqProofs (maxSteps:=1000000) (disch:=omega) only [push_cast,simprocAttr,↓gd]) (by simp)
   have q2:S1[S.length+2]?=some (.cells 0 zW):=hu1.get (by simp -implicitDefEqProofs (maxSteps:=1000000) (disch:=omega) only [push_cast,simprocAttr,↓gd]) (by simp)
   have l0:=lt_of_some q0
   have l2:=lt_of_some q2
   have hst:=h.upd hu
   generalize (if 0≤v.b∧v.b≤90 then hearWM w.answerer (w.up.take v.b.toNat) else w.answerer)=y at *
   generalize (if 0≤v.b∧v.b≤90 then w.up.drop v.b.toNat else w.up)=o at *
   obtain ⟨w1,w2,w3,w4,w5,w6⟩:=q1.facts
   have hw:WX S1 p p1 { w with answerer:=y,up:=o,down:=w.down }:=⟨hst.caller,q1⟩
   simp -implicitDefEqProofs (maxSteps:=1000000) (disch:=omega) only [push_cast,simprocAttr,q0,q2,k4,w1,w2,w3,w4,o1,i1,o2,i2,o4,i4,o5,i5,↓gd]
   exact ⟨_,_,Wk.refl _ _ _,⟨p,p1,rfl,(hw.var _ q0).var _ (by rw [List.getElem?_set_ne (by omega)]; exact q2)⟩,(hu.set _ (.inl (by omega))).set _ (.inl (by omega))⟩
  ·by_cases a1:v.a=1
   ·have hm:passM w v.a v.b={ w with caller:=if 0≤v.b∧v.b≤90 then hearWM w.caller (w.down.take v.b.toNat) else w.caller,down:=if 0≤v.b∧v.b≤90 then w.down.drop v.b.toNat else w.down }:=by
     rw [passM]
     by_cases q:0≤v.b∧v.b≤90
     ·simp only [if_pos q,if_neg a0,if_pos a1]
     ·simp only [if_neg q]
    rw [hm]
    simp -implicitDefEqProofs (maxSteps:=1000000) (disch:=omega) only [push_cast,simprocAttr,k1,k2,k3,k4,a0,a1,o1,i1,o2,i2,o4,i4,o5,i5,↓gd]
    refine ((hcon6 _).as (by simp [xV,pE,enX,o1,i1,o2,i2,o3,i3,o4,i4,o5,i5,o6,i6])).mono ?_
    rintro r S1 ⟨u,rfl,⟨p1,rfl,q1⟩,hu1⟩
    have hu:Upd [] S S1:=((Upd.refl [] S).app _).trans hu1
    have q0:S1[S.length]?=some (.cells 0 (pC p q w)):=hu1.get (by simp -implicitDefEqProofs (maxSteps:=1000000) (disch:=omega) only [push_cast,simprocAttr,↓gd]) (by simp)
    have q2:S1[S.length+2]?=some (.cells 0 zW):=hu1.get (by simp -implicitDefEqProofs (maxSteps:=1000000) (disch:=omega) only [push_cast,simprocAttr,↓gd]) (by simp)
    have l0:=lt_of_some q0
    have l2:=lt_of_some q2
    have hst:=h.upd hu
    generalize (if 0≤v.b∧v.b≤90 then hearWM w.caller (w.down.take v.b.toNat) else w.caller)=y at *
    generalize (if 0≤v.b∧v.b≤90 then w.down.drop v.b.toNat else w.down)=o at *
    obtain ⟨w1,w2,w3,w4,w5,w6⟩:=q1.facts
    have hw:WX S1 p1 q { w with caller:=y,up:=w.up,down:=o }:=⟨q1,hst.answerer⟩
    simp -implicitDefEqProofs (maxSteps:=1000000) (disch:=omega) only [push_cast,simprocAttr,q0,q2,k4,w1,w2,w3,w4,o1,i1,o2,i2,o4,i4,o5,i5,↓gd]
    exact ⟨_,_,Wk.refl _ _ _,⟨p1,q,rfl,(hw.var _ q0).var _ (by rw [List.getElem?_set_ne (by omega)]; exact q2)⟩,(hu.set _ (.inl (by omega))).set _ (.inl (by omega))⟩
   ·have hm:passM w v.a v.b=w:=by
     rw [passM]
     by_cases q:0≤v.b∧v.b≤90
     ·simp only [if_pos q,if_neg a0,if_neg a1]
     ·simp only [if_neg q]
    rw [hm]
    simp -implicitDefEqProofs (maxSteps:=1000000) (disch:=omega) only [push_cast,simprocAttr,k1,k2,k3,k4,a0,a1,o1,i1,o2,i2,o4,i4,o5,i5,↓gd]
    exact ⟨_,_,Wk.refl _ _ _,⟨p,q,rfl,h.app _⟩,(Upd.refl _ _).app _⟩
 rw [doM_kinds w v v.kind rfl,if_neg k1,if_neg k2,if_neg k3,if_neg k4]
 simp -implicitDefEqProofs (maxSteps:=1000000) (disch:=omega) only [push_cast,simprocAttr,k1,k2,k3,k4,o1,i1,o2,i2,o4,i4,o5,i5,↓gd]
 exact ⟨_,_,Wk.refl _ _ _,⟨p,q,rfl,h.app _⟩,(Upd.refl _ _).app _⟩
theorem WorldDo_O {w:Wo} (hB:WoB w) (v:Ev) (hv:EvB v) {S:List Blk} {p q:XP} (h:WX S p q w):VCall Tryz.prog 19 [pV p q w,evV v] S fun r S'=>RWO S (worldDoM w v) r S':=by
 obtain ⟨o1,i1,o2,i2,o3,i3⟩:=h.caller.facts
 obtain ⟨o4,i4,o5,i5,o6,i6⟩:=h.answerer.facts
 have hok:=fun X=>WorldOk_X hB (h.app X)
 refine VCall.en hDe Tryz.func19 Tryz.ntmps19 Tryz.results19 ?_
 simp -implicitDefEqProofs (maxSteps:=1000000) (disch:=omega) only [push_cast,simprocAttr,o1,i1,o2,i2,o4,i4,o5,i5,↓gd]
 refine ((hok _).as (by simp [pV,pC,pE,enX,o1,i1,o2,i2,o3,i3,o4,i4,o5,i5,o6,i6])).to ?_
 cases hE:woOk w
 ·rw [worldDoM,if_pos hE]
  simp -implicitDefEqProofs (maxSteps:=1000000) (disch:=omega) only [push_cast,simprocAttr,o1,i1,o2,i2,o4,i4,o5,i5,↓gd]
  exact RWO.zero
 ·rw [worldDoM,if_neg (by rw [hE]; simp)]
  have hp:=woOk_parts hE
  have hdo:=fun X=>do_X hB hp.1 hp.2 v hv (h.app X)
  have hW:=doM_w (woOk_w hE |>.mono (show 60≤642 by decide)) (by decide) v
  simp -implicitDefEqProofs (maxSteps:=1000000) (disch:=omega) only [push_cast,simprocAttr,o1,i1,o2,i2,o4,i4,o5,i5,↓gd]
  refine ((hdo _).as (by simp [pV,pC,pE,enX,evV,o1,i1,o2,i2,o3,i3,o4,i4,o5,i5,o6,i6])).mono ?_
  rintro r S1 ⟨⟨p1,q1,rfl,x1⟩,hu1⟩
  have hu:Upd [] S S1:=((Upd.refl [] S).app _).trans hu1
  have k0:S1[S.length]?=some (.cells 0 (pC p q w)):=hu1.get (by simp -implicitDefEqProofs (maxSteps:=1000000) (disch:=omega) only [push_cast,simprocAttr,↓gd]) (by simp)
  have k2:S1[S.length+2]?=some (.cells 0 zW):=hu1.get (by simp -implicitDefEqProofs (maxSteps:=1000000) (disch:=omega) only [push_cast,simprocAttr,↓gd]) (by simp)
  have k0':=k0
  have k1:S1[S.length+1]?=some (.cells 0 [.int .i64 v.kind,.int .i64 v.a,.int .i64 v.b,.str v.path,.str v.text]):=hu1.get (by simp -implicitDefEqProofs (maxSteps:=1000000) (disch:=omega) only [push_cast,simprocAttr,↓gd]) (by simp)
  have l2:=lt_of_some k2
  have hy:=hW.b (by decide)
  obtain ⟨w1,w2,w3,w4,w5,w6⟩:=x1.caller.facts
  obtain ⟨z1,z2,z3,z4,z5,z6⟩:=x1.answerer.facts
  generalize doM w v=y at *
  simp -implicitDefEqProofs (maxSteps:=1000000) (disch:=omega) only [push_cast,simprocAttr,k0,k1,k2,w1,w2,w3,w4,z1,z2,z3,z4,↓gd]
  refine ((wclone_O hy x1).as (by simp [pV,pC,pE,enX,w1,w2,w3,w4,w5,w6,z1,z2,z3,z4,z5,z6])).mono ?_
  rintro r S2 ⟨po,pi,b2,c2,ls,qo,qi,d2,f2,ks,rfl,q2⟩
  have k2':=q2.caller.upd.get k2 (by simp)
  have l2':=lt_of_some k2'
  have e5:=hu1.1
  simp -implicitDefEqProofs (maxSteps:=1000000) (disch:=omega) only [push_cast,simprocAttr,k2',↓gd]
  exact ⟨_,_,Wk.refl _ _ _,po,pi,b2,c2,ls,qo,qi,d2,f2,ks,rfl,(q2.of hu).var _ k2' (by omega)⟩
end
section
open Go
theorem WoNew.x {S S':List Blk} {w:Wo} {b c d f:Nat} (h:WoNew S w b c d f S'):RWX S' w (wV b c d f w) :=
 ⟨⟨_,_,b,c,_⟩,⟨_,_,d,f,_⟩,rfl,⟨h.at_.caller.x,h.at_.answerer.x⟩⟩
end
end Go.Proofs.YtldogccmhncnoaaGreatDoor
