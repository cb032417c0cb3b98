/- A part of the proof: contracts of functions, or plain facts on which these lean. -/
import Derived.Test.YtaamlddnpamomaaGreatDoorMe27
namespace Go.Proofs.YtaamlddnpamomaaGreatDoor
open Go
set_option linter.unusedVariables false
set_option linter.unusedSimpArgs false
set_option maxRecDepth 100000
set_option maxHeartbeats 16000000

section
open Go
theorem EnNew.toTo {S:List Blk} {e:En} {b' c':Nat} {S':List Blk} (h:EnNew S e b' c' S') (b c:Nat):EnTo S b c e b' c' S':=⟨h.at_,.inr h.hb,.inr h.hc,h.upd.mono (fun _ _ hm=>by cases hm)⟩
theorem WoTo.still {S S':List Blk} {b c d f:Nat} {w:Wo} (h:WoAt S b c d f w) (hu:Upd [] S S'):WoTo S b c d f w b c d f S' :=
 ⟨⟨h.caller.upd hu (by simp) (by simp),h.answerer.upd hu (by simp) (by simp),h.ne1,h.ne2⟩,.inl rfl,.inl rfl,.inl rfl,.inl rfl,hu.mono (fun _ _ hm=>by cases hm)⟩
theorem WoTo.withUp {S:List Blk} {b c d f:Nat} {w:Wo} {b' c' d' f':Nat} {S':List Blk} (h:WoTo S b c d f w b' c' d' f' S') (u v:List UInt8):WoTo S b c d f { w with up:=u,down:=v } b' c' d' f' S':=⟨⟨h.at_.caller,h.at_.answerer,h.at_.ne1,h.at_.ne2⟩,h.hb,h.hc,h.hd,h.hf,h.upd⟩
theorem writeM_len {N:Nat} {e:En} (h:EnW N e):(writeM e).2.length≤N * 300+8000:=by
 have h1:=waitM_len (N:=N) e.wait e h.wait
 obtain ⟨w1,w2,w3⟩:=waitM_w (N:=N) e.wait e h
 have h2:=saysM_len e.strs.length 0 { (waitM e e.wait).1 with wait:=[] } w1.noWait (by simp only [Nat.zero_add]; rw [w2]; exact Nat.le_refl _)
 have h3:=stsOk_len h.sts
 have h4:=h.len
 rw [writeM_eq]
 refine Nat.le_trans (Nat.le_of_eq List.length_append) ?_
 exact Nat.add_le_add (Nat.le_trans h1 (Nat.mul_le_mul_right _ h4)) (Nat.le_trans h2 (Nat.mul_le_mul_right 2000 h3))
theorem l22Say_ok {N:Nat} {w:Wo} (hW:WoW N w) (hN:N≤900000) (side:Int) {S:List Blk} {b c d f:Nat} (h:WoAt S b c d f w):VCall Tryz.prog 126 [wV b c d f w,.int .i64 side] S fun r S'=>RWTo S b c d f (sayWM w side) r S':=by
 have hB:=hW.b (by omega)
 have hup:=hB.up
 have hdn:=hB.down
 obtain ⟨n1,n2,n3,n4,n5,n6,n7,n8⟩:=h.nes
 refine VCall.en hDe Tryz.func126 Tryz.ntmps126 Tryz.results126 ?_
 by_cases hs:side=0
 ·subst hs
  have hcp:=fun X=>l21Copy_ok hB.caller (h.caller.app X)
  have hol:=writeM_len hW.caller
  have hm:sayWM w 0=if w.caller.bad=false∧w.up.length+(writeM w.caller).2.length≤800 then { w with caller:=(writeM w.caller).1,up:=w.up++(writeM w.caller).2 } else w:=rfl
  rw [hm]
  simp -implicitDefEqProofs (disch:=omega) only [push_cast,simprocAttr,↓gd]
  refine ((hcp _).as (by simp [eV,enV,enC])).mono ?_
  rintro r S1 ⟨b1,c1,rfl,q1⟩
  have k0:S1[S.length]?=some (.cells 0 (wC b c d f w)):=q1.upd.get (by simp -implicitDefEqProofs (disch:=omega) only [push_cast,simprocAttr,↓gd]) (by simp)
  have k1:S1[S.length+1]?=some (.cells 0 zW):=q1.upd.get (by simp -implicitDefEqProofs (disch:=omega) only [push_cast,simprocAttr,↓gd]) (by simp)
  simp -implicitDefEqProofs (disch:=omega) only [push_cast,simprocAttr,↓gd]
  refine ((l21Write_ok hW.caller (by omega) q1.at_).as (by simp [eV,enV,enC])).mono ?_
  rintro r S2 ⟨v,rfl,b2,c2,rfl,hto⟩
  have hb1:=q1.hb; have hc1:=q1.hc
  simp at hb1 hc1
  have k0:=hto.upd.get k0 (by simp; omega)
  have k1:=hto.upd.get k1 (by simp; omega)
  have l0:=lt_of_some k0
  have l1:=lt_of_some k1
  have hn:=(q1.to hto).app
  have h0:=h.caller_to (hn.toTo b c)
  have hst:=WoTo.still h hn.upd
  have v0:=h0.at_.var k0
  have v1:=h0.at_.var k1
  have v0':=hst.at_.var k0
  have v1':=hst.at_.var k1
  generalize hq:writeM w.caller=q at *
  obtain ⟨y,o⟩:=q
  simp only at *
  rcases Bool.eq_false_or_eq_true w.caller.bad with hbad | hbad
  ·rw [if_neg (by rw [hbad]; simp)]
   simp -implicitDefEqProofs (disch:=omega) only [push_cast,simprocAttr,k0,k1,hbad,↓gd]
   exact ⟨_,_,Wk.refl _ _ _,b,c,d,f,by simp -implicitDefEqProofs (disch:=omega) only [push_cast,simprocAttr,hbad,↓gd],(hst.set (j:=S.length+1) _ (by omega) v1').appR _⟩
  ·by_cases hl:(w.up.length:Int)+o.length≤800
   ·rw [if_pos ⟨hbad,by omega⟩]
    simp -implicitDefEqProofs (disch:=omega) only [push_cast,simprocAttr,k0,k1,hbad,hl,↓gd]
    repeat refine And.intro (by omega) ?_
    have h1:=h0.withUp (w.up++o) w.down
    exact ⟨_,_,Wk.refl _ _ _,b2,c2,d,f,rfl,((h1.set (j:=S.length) _ (by omega) v0).set (j:=S.length+1) _ (by omega) v1).appR _⟩
   ·rw [if_neg (by omega)]
    simp -implicitDefEqProofs (disch:=omega) only [push_cast,simprocAttr,k0,k1,hbad,hl,↓gd]
    exact ⟨_,_,Wk.refl _ _ _,b,c,d,f,by simp -implicitDefEqProofs (disch:=omega) only [push_cast,simprocAttr,hbad,↓gd],(hst.set (j:=S.length+1) _ (by omega) v1').appR _⟩
 ·by_cases hs1:side=1
  ·subst hs1
   have hcp:=fun X=>l21Copy_ok hB.answerer (h.answerer.app X)
   have hol:=writeM_len hW.answerer
   have hm:sayWM w 1=if w.answerer.bad=false∧w.down.length+(writeM w.answerer).2.length≤800 then { w with answerer:=(writeM w.answerer).1,down:=w.down++(writeM w.answerer).2 } else w:=rfl
   rw [hm]
   simp -implicitDefEqProofs (disch:=omega) only [push_cast,simprocAttr,↓gd]
   refine ((hcp _).as (by simp [eV,enV,enC])).mono ?_
   rintro r S1 ⟨b1,c1,rfl,q1⟩
   have k0:S1[S.length]?=some (.cells 0 (wC b c d f w)):=q1.upd.get (by simp -implicitDefEqProofs (disch:=omega) only [push_cast,simprocAttr,↓gd]) (by simp)
   have k1:S1[S.length+1]?=some (.cells 0 zW):=q1.upd.get (by simp -implicitDefEqProofs (disch:=omega) only [push_cast,simprocAttr,↓gd]) (by simp)
   simp -implicitDefEqProofs (disch:=omega) only [push_cast,simprocAttr,↓gd]
   refine ((l21Write_ok hW.answerer (by omega) q1.at_).as (by simp [eV,enV,enC])).mono ?_
   rintro r S2 ⟨v,rfl,b2,c2,rfl,hto⟩
   have hb1:=q1.hb; have hc1:=q1.hc
   simp at hb1 hc1
   have k0:=hto.upd.get k0 (by simp; omega)
   have k1:=hto.upd.get k1 (by simp; omega)
   have l0:=lt_of_some k0
   have l1:=lt_of_some k1
   have hn:=(q1.to hto).app
   have h0:=h.answerer_to (hn.toTo d f)
   have hst:=WoTo.still h hn.upd
   have v0:=h0.at_.var k0
   have v1:=h0.at_.var k1
   have v0':=hst.at_.var k0
   have v1':=hst.at_.var k1
   generalize hq:writeM w.answerer=q at *
   obtain ⟨y,o⟩:=q
   simp only at *
   rcases Bool.eq_false_or_eq_true w.answerer.bad with hbad | hbad
   ·rw [if_neg (by rw [hbad]; simp)]
    simp -implicitDefEqProofs (disch:=omega) only [push_cast,simprocAttr,k0,k1,hbad,↓gd]
    exact ⟨_,_,Wk.refl _ _ _,b,c,d,f,by simp -implicitDefEqProofs (disch:=omega) only [push_cast,simprocAttr,hbad,↓gd],(hst.set (j:=S.length+1) _ (by omega) v1').appR _⟩
   ·by_cases hl:(w.down.length:Int)+o.length≤800
    ·rw [if_pos ⟨hbad,by omega⟩]
     simp -implicitDefEqProofs (disch:=omega) only [push_cast,simprocAttr,k0,k1,hbad,hl,↓gd]
     repeat refine And.intro (by omega) ?_
     have h1:=h0.withUp w.up (w.down++o)
     exact ⟨_,_,Wk.refl _ _ _,b,c,b2,c2,rfl,((h1.set (j:=S.length) _ (by omega) v0).set (j:=S.length+1) _ (by omega) v1).appR _⟩
    ·rw [if_neg (by omega)]
     simp -implicitDefEqProofs (disch:=omega) only [push_cast,simprocAttr,k0,k1,hbad,hl,↓gd]
     exact ⟨_,_,Wk.refl _ _ _,b,c,d,f,by simp -implicitDefEqProofs (disch:=omega) only [push_cast,simprocAttr,hbad,↓gd],(hst.set (j:=S.length+1) _ (by omega) v1').appR _⟩
  ·have hm:sayWM w side=w:=by rw [sayWM,if_neg hs,if_neg hs1]
   rw [hm]
   simp -implicitDefEqProofs (disch:=omega) only [push_cast,simprocAttr,hs,hs1,↓gd]
   exact ⟨_,_,Wk.refl _ _ _,b,c,d,f,rfl,.stay h⟩
theorem l22Pass_ok {N:Nat} {w:Wo} (hW:WoW N w) (hN:N≤900000) (way n:Int) {S:List Blk} {b c d f:Nat} (h:WoAt S b c d f w):VCall Tryz.prog 127 [wV b c d f w,.int .i64 way,.int .i64 n] S fun r S'=>RWTo S b c d f (passM w way n) r S':=by
 have hB:=hW.b (by omega)
 have hup:=hB.up
 have hdn:=hB.down
 obtain ⟨n1,n2,n3,n4,n5,n6,n7,n8⟩:=h.nes
 refine VCall.ex hDe (fun _=>false) (fun id=>if id=6 then [6,6,6,6,6,6,8,8,9] else if id=10 then [6,6,6,6,6,6,8,8,9] else []) Tryz.func127 Tryz.ntmps127 Tryz.results127 ?_
 by_cases hin:0≤n∧n≤90
 ·have hm:passM w way n=if way=0 then { w with answerer:=hearWM w.answerer (w.up.take n.toNat),up:=w.up.drop n.toNat } else if way=1 then { w with caller:=hearWM w.caller (w.down.take n.toNat),down:=w.down.drop n.toNat } else w:=by rw [passM,if_pos hin]
  rw [hm]
  by_cases hs:way=0
  ·subst hs
   rw [if_pos rfl]
   have emin:(if (w.up.length:Int) < n then (w.up.length:Int) else n)=((min n.toNat w.up.length:Nat):Int):=by omega
   have etk:w.up.take (min n.toNat w.up.length)=w.up.take n.toNat:=by rw [List.take_eq_take_iff]; omega
   have edr:w.up.drop (min n.toNat w.up.length)=w.up.drop n.toNat:=by
    rw [List.drop_eq_drop_iff]; omega
   have hcon:=fun S2 q=>l22Hear_ok (bs:=w.up.take n.toNat) hW.answerer hN (by rw [List.length_take]; omega) (S:=S2) (b:=d) (c:=f) q
   simp -implicitDefEqProofs (disch:=omega) only [push_cast,simprocAttr,↓gd]
   refine (l6In_t hin _).to ?_
   simp -implicitDefEqProofs (disch:=omega) only [push_cast,simprocAttr,emin,etk,↓gd]
   repeat refine And.intro (by omega) ?_
   refine ((hcon _ (h.answerer.app _)).as (by simp [eV,enV,enC,List.drop_zero])).mono ?_
   rintro r S1 ⟨d1,f1,rfl,hto⟩
   have k0:S1[S.length]?=some (.cells 0 (wC b c d f w)):=hto.upd.get (by simp -implicitDefEqProofs (disch:=omega) only [push_cast,simprocAttr,↓gd]) (by simp; omega)
   have k1:S1[S.length+1]?=some (.cells 0 zW):=hto.upd.get (by simp -implicitDefEqProofs (disch:=omega) only [push_cast,simprocAttr,↓gd]) (by simp; omega)
   have l0:=lt_of_some k0
   have l1:=lt_of_some k1
   have h0:=h.answerer_to hto.app
   have v0:=h0.at_.var k0
   have v1:=h0.at_.var k1
   have h1:=h0.withUp (w.up.drop n.toNat) w.down
   generalize hearWM w.answerer (w.up.take n.toNat)=y at *
   simp -implicitDefEqProofs (disch:=omega) only [push_cast,simprocAttr,k0,k1,edr,List.take_length,↓gd]
   repeat refine And.intro (by omega) ?_
   exact ⟨_,_,Wk.refl _ _ _,b,c,d1,f1,rfl,((h1.set (j:=S.length) _ (by omega) v0).set (j:=S.length+1) _ (by omega) v1)⟩
  ·rw [if_neg hs]
   by_cases hs1:way=1
   ·subst hs1
    rw [if_pos rfl]
    have emin:(if (w.down.length:Int) < n then (w.down.length:Int) else n)=((min n.toNat w.down.length:Nat):Int):=by omega
    have etk:w.down.take (min n.toNat w.down.length)=w.down.take n.toNat:=by rw [List.take_eq_take_iff]; omega
    have edr:w.down.drop (min n.toNat w.down.length)=w.down.drop n.toNat:=by
     rw [List.drop_eq_drop_iff]; omega
    have hcon:=fun S2 q=>l22Hear_ok (bs:=w.down.take n.toNat) hW.caller hN (by rw [List.length_take]; omega) (S:=S2) (b:=b) (c:=c) q
    simp -implicitDefEqProofs (disch:=omega) only [push_cast,simprocAttr,↓gd]
    refine (l6In_t hin _).to ?_
    simp -implicitDefEqProofs (disch:=omega) only [push_cast,simprocAttr,emin,etk,↓gd]
    repeat refine And.intro (by omega) ?_
    refine ((hcon _ (h.caller.app _)).as (by simp [eV,enV,enC,List.drop_zero])).mono ?_
    rintro r S1 ⟨b1,c1,rfl,hto⟩
    have k0:S1[S.length]?=some (.cells 0 (wC b c d f w)):=hto.upd.get (by simp -implicitDefEqProofs (disch:=omega) only [push_cast,simprocAttr,↓gd]) (by simp; omega)
    have k1:S1[S.length+1]?=some (.cells 0 zW):=hto.upd.get (by simp -implicitDefEqProofs (disch:=omega) only [push_cast,simprocAttr,↓gd]) (by simp; omega)
    have l0:=lt_of_some k0
    have l1:=lt_of_some k1
    have h0:=h.caller_to hto.app
    have v0:=h0.at_.var k0
    have v1:=h0.at_.var k1
    have h1:=h0.withUp w.up (w.down.drop n.toNat)
    generalize hearWM w.caller (w.down.take n.toNat)=y at *
    simp -implicitDefEqProofs (disch:=omega) only [push_cast,simprocAttr,k0,k1,edr,List.take_length,↓gd]
    repeat refine And.intro (by omega) ?_
    exact ⟨_,_,Wk.refl _ _ _,b1,c1,d,f,rfl,((h1.set (j:=S.length) _ (by omega) v0).set (j:=S.length+1) _ (by omega) v1)⟩
   ·rw [if_neg hs1]
    simp -implicitDefEqProofs (disch:=omega) only [push_cast,simprocAttr,↓gd]
    refine (l6In_t hin _).to ?_
    simp -implicitDefEqProofs (disch:=omega) only [push_cast,simprocAttr,hs,hs1,↓gd]
    exact ⟨_,_,Wk.refl _ _ _,b,c,d,f,rfl,.stay h⟩
 ·have hm:passM w way n=w:=by rw [passM,if_neg hin]
  rw [hm]
  simp -implicitDefEqProofs (disch:=omega) only [push_cast,simprocAttr,↓gd]
  refine (l6In_f hin _).to ?_
  simp -implicitDefEqProofs (disch:=omega) only [push_cast,simprocAttr,↓gd]
  exact ⟨_,_,Wk.refl _ _ _,b,c,d,f,rfl,.stay h⟩
end
section
open Go
def evV (v:Ev):V:=.agg [.int .i64 v.kind,.int .i64 v.a,.int .i64 v.b,.str v.path,.str v.text]
@[push_cast] theorem evV_eq (v:Ev):evV v=.agg [.int .i64 v.kind,.int .i64 v.a,.int .i64 v.b,.str v.path,.str v.text]:=rfl
def EvB (v:Ev):Prop:=v.path.length≤2000000∧v.text.length≤2000000
theorem doM_kinds (w:Wo) (v:Ev) (k:Int) (h:v.kind=k):doM w v=if k=1 then { w with caller:=(callM w.caller v.path v.text).1 }
 else if k=2 then { w with caller:=(leaveM w.caller v.a).1 } else if k=3 then sayWM w v.a else if k=4 then passM w v.a v.b else w:=by rw [←h]; rfl
theorem l22Do_ok {N:Nat} {w:Wo} (hW:WoW N w) (hN:N≤900000) (v:Ev) (hv:EvB v) {S:List Blk} {b c d f:Nat} (h:WoAt S b c d f w):VCall Tryz.prog 81 [wV b c d f w,evV v] S fun r S'=>RWTo S b c d f (doM w v) r S':=by
 have hB:=hW.b (by omega)
 obtain ⟨n1,n2,n3,n4,n5,n6,n7,n8⟩:=h.nes
 have hcon1:=fun X=>l21Call_ok hW.caller (by omega) v.path v.text hv.1 hv.2 (h.caller.app X)
 have hcon2:=fun X=>l21Leave_ok hB.caller (h.caller.app X) v.a
 have hcon3:=fun X=>l22Say_ok hW hN v.a (h.app X)
 have hcon4:=fun X=>l22Pass_ok hW hN v.a v.b (h.app X)
 refine VCall.en hDe Tryz.func81 Tryz.ntmps81 Tryz.results81 ?_
 by_cases k1:v.kind=1
 ·rw [doM_kinds w v 1 k1,if_pos rfl]
  simp -implicitDefEqProofs (disch:=omega) only [push_cast,simprocAttr,k1,↓gd]
  refine ((hcon1 _).as (by simp [eV,enV,enC])).mono ?_
  rintro r S1 ⟨u,rfl,⟨b1,c1,rfl,hto⟩,hno⟩
  have q0:S1[S.length]?=some (.cells 0 (wC b c d f w)):=hto.upd.get (by simp -implicitDefEqProofs (disch:=omega) only [push_cast,simprocAttr,↓gd]) (by simp; omega)
  have q2:S1[S.length+2]?=some (.cells 0 zW):=hto.upd.get (by simp -implicitDefEqProofs (disch:=omega) only [push_cast,simprocAttr,↓gd]) (by simp; omega)
  have l0:=lt_of_some q0
  have l2:=lt_of_some q2
  have h0:=h.caller_to hto.app
  have v0:=h0.at_.var q0
  have v2:=h0.at_.var q2
  have hfail:(callM w.caller v.path v.text).2.2=false→(callM w.caller v.path v.text).1=w.caller:=by
   unfold callM
   split
   ·exact fun _=>rfl
   ·exact fun q=>by cases q
  generalize callM w.caller v.path v.text=y at *
  obtain ⟨y,i,ok⟩:=y
  simp only at *
  cases ok
  ·have e:=hfail rfl
   subst e
   have hst:WoTo S b c d f w b c d f S1:=⟨⟨hno rfl,h0.at_.answerer,n1 |> fun _=>h.ne1,h.ne2⟩,.inl rfl,.inl rfl,.inl rfl,.inl rfl,h0.upd⟩
   have v2':=hst.at_.var q2
   simp -implicitDefEqProofs (disch:=omega) only [push_cast,simprocAttr,q0,q2,k1,↓gd]
   exact ⟨_,_,Wk.refl _ _ _,b,c,d,f,rfl,(hst.set (j:=S.length+2) _ (by omega) v2').appR _⟩
  ·simp -implicitDefEqProofs (disch:=omega) only [push_cast,simprocAttr,q0,q2,k1,↓gd]
   exact ⟨_,_,Wk.refl _ _ _,b1,c1,d,f,rfl,((h0.set (j:=S.length) _ (by omega) v0).set (j:=S.length+2) _ (by omega) v2).appR _⟩
 by_cases k2:v.kind=2
 ·rw [doM_kinds w v 2 k2,if_neg (by decide),if_pos rfl]
  simp -implicitDefEqProofs (disch:=omega) only [push_cast,simprocAttr,k1,k2,↓gd]
  refine ((hcon2 _).as (by simp [eV,enV,enC])).mono ?_
  rintro r S1 ⟨u,rfl,b1,c1,rfl,hto⟩
  have q0:S1[S.length]?=some (.cells 0 (wC b c d f w)):=hto.upd.get (by simp -implicitDefEqProofs (disch:=omega) only [push_cast,simprocAttr,↓gd]) (by simp; omega)
  have q2:S1[S.length+2]?=some (.cells 0 zW):=hto.upd.get (by simp -implicitDefEqProofs (disch:=omega) only [push_cast,simprocAttr,↓gd]) (by simp; omega)
  have l0:=lt_of_some q0
  have l2:=lt_of_some q2
  have h0:=h.caller_to hto.app
  have v0:=h0.at_.var q0
  have v2:=h0.at_.var q2
  generalize leaveM w.caller v.a=y at *
  obtain ⟨y,ok⟩:=y
  simp only at *
  simp -implicitDefEqProofs (disch:=omega) only [push_cast,simprocAttr,q0,q2,k2,↓gd]
  exact ⟨_,_,Wk.refl _ _ _,b1,c1,d,f,rfl,((h0.set (j:=S.length) _ (by omega) v0).set (j:=S.length+2) _ (by omega) v2).appR _⟩
 by_cases k3:v.kind=3
 ·rw [doM_kinds w v 3 k3,if_neg (by decide),if_neg (by decide),if_pos rfl]
  simp -implicitDefEqProofs (disch:=omega) only [push_cast,simprocAttr,k1,k2,k3,↓gd]
  refine ((hcon3 _).as (by simp [wV,wC,enC])).mono ?_
  rintro r S1 ⟨b1,c1,d1,f1,rfl,hto⟩
  have q2:S1[S.length+2]?=some (.cells 0 zW):=hto.upd.get (by simp -implicitDefEqProofs (disch:=omega) only [push_cast,simprocAttr,↓gd]) (by simp; omega)
  have l2:=lt_of_some q2
  have h0:=hto.app
  have v2:=h0.at_.var q2
  generalize sayWM w v.a=y at *
  simp -implicitDefEqProofs (disch:=omega) only [push_cast,simprocAttr,q2,↓gd]
  exact ⟨_,_,Wk.refl _ _ _,b1,c1,d1,f1,rfl,h0.set (j:=S.length+2) _ (by omega) v2⟩
 by_cases k4:v.kind=4
 ·rw [doM_kinds w v 4 k4,if_neg (by decide),if_neg (by decide),if_neg (by decide),if_pos rfl]
  simp -implicitDefEqProofs (disch:=omega) only [push_cast,simprocAttr,k1,k2,k3,k4,↓gd]
  refine ((hcon4 _).as (by simp [wV,wC,enC])).mono ?_
  rintro r S1 ⟨b1,c1,d1,f1,rfl,hto⟩
  have q2:S1[S.length+2]?=some (.cells 0 zW):=hto.upd.get (by simp -implicitDefEqProofs (disch:=omega) only [push_cast,simprocAttr,↓gd]) (by simp; omega)
  have l2:=lt_of_some q2
  have h0:=hto.app
  have v2:=h0.at_.var q2
  generalize passM w v.a v.b=y at *
  simp -implicitDefEqProofs (disch:=omega) only [push_cast,simprocAttr,q2,↓gd]
  exact ⟨_,_,Wk.refl _ _ _,b1,c1,d1,f1,rfl,h0.set (j:=S.length+2) _ (by omega) v2⟩
 rw [doM_kinds w v v.kind rfl,if_neg k1,if_neg k2,if_neg k3,if_neg k4]
 simp -implicitDefEqProofs (disch:=omega) only [push_cast,simprocAttr,k1,k2,k3,k4,↓gd]
 exact ⟨_,_,Wk.refl _ _ _,b,c,d,f,rfl,.stay h⟩
end
section
open Go
theorem playM_w:∀(l:List Ev),WoW (642+l.length) (playM l):=by
 have gen:∀(l:List Ev) (N:Nat) (w:Wo),642≤N→WoW N w→WoW (N+l.length) (l.foldl doM w):=by
  intro l
  induction l with
  | nil=>intro N w _ h; exact h
  | cons v l ih =>
   intro N w hN h
   have:=ih (N+1) (doM w v) (by omega) (doM_w h hN v)
   rw [List.foldl_cons,List.length_cons,show N+(l.length+1)=N+1+l.length by omega]
   exact this
 exact fun l=>gen l 642 newWo (Nat.le_refl _) (newWo_w.mono (by omega))
theorem evs_len5 (l:List Ev):(l.map evV).all (lenIs 5)=true:=by rw [List.all_eq_true]; intro v hv; obtain ⟨f,_,rfl⟩:=List.mem_map.1 hv; rfl
end
section
open Go
theorem frmsC_in {S:List Blk} {c:Nat} {l:List Fr} (hc:S[c]?=some (.cells 4 (frmsC l))) (X:List Blk):(S++X)[c]?=some (.cells 4 (frmsC l)):=by
 rw [List.getElem?_append_left (lt_of_some hc)]; exact hc
theorem IndexFuncF_ok (l:List Fr) (fid:Nat) (caps:List V) (p:Fr→Bool) (hlen:l.length≤2000000) {c:Nat} (S:List Blk) (hc:S[c]?=some (.cells 4 (frmsC l))) (hp:∀g ∈ l,VCall Tryz.prog fid (eraseArgs (frV g :: caps)) S fun r S'=>r=.bool (p g)∧S'=S) :
  VCall Tryz.prog 112 [.heap c l.length,.fn fid caps] S fun r S'=>r=.int .i64 (if l.any p then (l.findIdx p:Int) else -1)∧S'=S:=by
 have hlw:=frmsC_len l
 refine VCall.en hDe Tryz.func112 Tryz.ntmps112 Tryz.results112 ?_
 simp -implicitDefEqProofs (maxSteps:=1000000) (disch:=omega) only [push_cast,simprocAttr,↓gd]
 refine wpV_loop (fun m t S'=>∃i:Nat,m=l.length - i∧i≤l.length∧(l.take i).any p=false∧t 0=.heap c l.length∧t 1=.fn fid caps∧t 7=.int .i64 l.length∧t 8=.int .i64 i∧S'=S) l.length ⟨0,by omega,by omega,by simp,rfl,rfl,rfl,rfl,rfl⟩ ?_
 rintro m t S' ⟨i,rfl,hi,hno,h0,h1,h7,h8,rfl⟩
 refine wpV_of0 hDe ?_
 simp -implicitDefEqProofs (maxSteps:=1000000) (disch:=omega) only [push_cast,simprocAttr,h0,h1,h7,h8,↓gd]
 refine ⟨fun h=>?_,fun h=>?_⟩
 ·have hil:i < l.length:=by omega
  have hat:=frmsC_at hil
  have hpf:=hp _ (getD_memF hil)
  have htk:=take_fr hil
  have hfi:p (l.getD i fr0)=true→l.findIdx p=i:=fun q=>by
   rw [getD_lt fr0 hil] at q
   rw [List.findIdx_eq hil]
   refine ⟨q,fun j hj=>?_⟩
   have:=List.any_eq_false.1 hno l[j] (by rw [List.mem_take_iff_getElem]; exact ⟨j,by omega,rfl⟩)
   simpa using this
  have han:p (l.getD i fr0)=true→l.any p=true:=fun q=>List.any_eq_true.2 ⟨_,getD_memF hil,q⟩
  generalize l.getD i fr0=f at *
  simp -implicitDefEqProofs (maxSteps:=1000000) (disch:=omega) only [push_cast,simprocAttr,h0,h1,h7,h8,hc,hat,↓gd]
  repeat refine And.intro (by omega) ?_
  refine (hpf.as rfl).to ?_
  cases hpv:p f
  ·simp -implicitDefEqProofs (maxSteps:=1000000) (disch:=omega) only [push_cast,simprocAttr,h0,h1,h7,h8,↓gd]
   refine ⟨l.length - (i+1),by omega,i+1,rfl,by omega,?_,by simp⟩
   rw [htk,List.any_append,hno]; simp [hpv]
  ·simp -implicitDefEqProofs (maxSteps:=1000000) (disch:=omega) only [push_cast,simprocAttr,h0,h1,h7,h8,↓gd]
   exact fin0 (by rw [han hpv,hfi hpv]; rfl)
 ·have:i=l.length:=by omega
  subst this
  rw [List.take_length] at hno
  exact fin0 (by rw [hno]; rfl)
theorem ContainsFuncF_ok (l:List Fr) (fid:Nat) (caps:List V) (p:Fr→Bool) (hlen:l.length≤2000000) {c:Nat} (S:List Blk) (hc:S[c]?=some (.cells 4 (frmsC l))) (hp:∀g ∈ l,VCall Tryz.prog fid (eraseArgs (frV g :: caps)) S fun r S'=>r=.bool (p g)∧S'=S) :
  VCall Tryz.prog 59 [.heap c l.length,.fn fid caps] S fun r S'=>r=.bool (l.any p)∧S'=S:=by
 refine VCall.en hDe Tryz.func59 Tryz.ntmps59 Tryz.results59 ?_
 simp -implicitDefEqProofs (maxSteps:=1000000) (disch:=omega) only [push_cast,simprocAttr,↓gd]
 refine (IndexFuncF_ok l fid caps p hlen S hc hp).to ?_
 cases h:l.any p
 ·simp -implicitDefEqProofs (maxSteps:=1000000) (disch:=omega) only [push_cast,simprocAttr,↓gd]
  exact fin0 rfl
 ·simp -implicitDefEqProofs (maxSteps:=1000000) (disch:=omega) only [push_cast,simprocAttr,↓gd]
  exact fin0 (by simp)
theorem endOk1_ok (f:Fr) (S:List Blk):VCall Tryz.prog 60 [frV f] S fun r S'=>r=.bool (!frameOk f)∧S'=S:=by
 refine VCall.en hD Tryz.func60 Tryz.ntmps60 Tryz.results60 ?_
 simp -implicitDefEqProofs (maxSteps:=1000000) (disch:=omega) only [push_cast,simprocAttr,↓gd]
 refine ((FrameOk_ok f _).as rfl).to ?_
 simp -implicitDefEqProofs (maxSteps:=1000000) (disch:=omega) only [push_cast,simprocAttr,↓gd]
 exact fin1 (.bool _) rfl
theorem EndOk_ok {e:En} (he:EnB e) {S:List Blk} {b c:Nat} (h:EnAt S b c e):VCall Tryz.prog 20 [eV b c e] S fun r S'=>r=.bool (endOk e)∧S'=S:=by
 obtain ⟨hb,hc⟩:=h
 have hbl:=lt_of_some hb
 have hcl:=lt_of_some hc
 have hlen:=strsC_len e.strs
 have hel:=he.len
 have hwn:=he.wait
 refine VCall.ex hDe (fun _=>false) (fun id=>if id=4 then [2,2,35,35,35,35,35,35,35,35,35,35,35,35,35,35,35,35,35,35,35,35,35,35,35,35,35,35,35,35,35,35,35,35,35,38,38,38] else []) Tryz.func20 Tryz.ntmps20 Tryz.results20 ?_
 simp -implicitDefEqProofs (maxSteps:=1000000) (disch:=omega) only [push_cast,simprocAttr,↓gd]
 refine wpV_loop (fun m t S1=>∃(i:Nat) (X:List Blk),m=e.strs.length - i∧i≤e.strs.length∧(∀j,j < i→okAt e.ans e.strs j=true)∧t 1=.ptr S.length 0∧t 6=.heap b e.strs.length∧t 7=.int .i64 e.strs.length∧t 8=.int .i64 i ∧
  S1=S++([.cells 0 (enC (.heap b e.strs.length) (.heap c e.wait.length) e)]++X)) e.strs.length
  ⟨0,[],by omega,by omega,by omega,rfl,rfl,rfl,rfl,rfl⟩ ?_
 rintro m t S1 ⟨i,X,rfl,hi,hok,h1,h6,h7,h8,rfl⟩
 refine wpV_of hDe (fun _=>false) (fun id=>if id=4 then [2,2,35,35,35,35,35,35,35,35,35,35,35,35,35,35,35,35,35,35,35,35,35,35,35,35,35,35,35,35,35,35,35,35,35,38,38,38] else []) (by kernel_rfl) ?_
 simp -implicitDefEqProofs (maxSteps:=1000000) (disch:=omega) only [push_cast,simprocAttr,h1,h6,h7,h8,↓gd]
 refine ⟨fun h=>?_,fun h=>?_⟩
 ·have hil:i < e.strs.length:=by omega
  have hat:=strsC_at hil
  have hid:=strsC_id hil
  have hsb:=he.sts _ (getD_memS hil)
  have bad:okAt e.ans e.strs i=false→endOk e=false:=fun q=>endOk_bad hil q
  have hx:okAt e.ans e.strs i=(stOk (e.strs.getD i st0) && (decide (i=0) || decide ((e.strs.getD (i - 1) st0).id < (e.strs.getD i st0).id)) && (e.ans || decide ((e.strs.getD i st0).id=2 * i+1))):=rfl
  have hid':∀_:0 < i,(strsC e.strs)[(i - 1) * 12]?=some (.int .i64 (e.strs.getD (i - 1) st0).id):=fun q=>strsC_id (l:=e.strs) (i:=i - 1) (by omega)
  generalize e.strs.getD i st0=s at hat hid hsb hx
  generalize e.strs.getD (i - 1) st0=p at hid' hx
  simp -implicitDefEqProofs (maxSteps:=1000000) (disch:=omega) only [push_cast,simprocAttr,h1,h6,h7,h8,hb,hat,hid,↓gd]
  repeat refine And.intro (by omega) ?_
  refine (isStream_ok s.id _).to ?_
  cases hs:strmOk s.id
  ·simp -implicitDefEqProofs (maxSteps:=1000000) (disch:=omega) only [push_cast,simprocAttr,h1,h6,h7,h8,hb,hat,hid,↓gd]
   exact fin1 (.bool _) (by rw [bad (by rw [hx,stOk,hs]; rfl)])
  have okf:stOk s=true→(i=0∨p.id < s.id)→(e.ans=true∨s.id=2 * (i:Int)+1)→okAt e.ans e.strs i=true:=fun q1 q2 q3=>by
   have a2:(decide (i=0) || decide (p.id < s.id))=true:=by rcases q2 with q | q <;> simp [q]
   have a3:(e.ans || decide (s.id=2 * (i:Int)+1))=true:=by
    rcases q3 with q | q
    ·simp [q]
    ·rw [decide_eq_true q]; simp
   rw [hx,q1,a2,a3]; rfl
  have next:∀(a:Bool) (B:Blk) (Y:List Blk),e.ans=a→okAt e.ans e.strs i=true→∃m',m' < e.strs.length - i∧∃(i':Nat) (X':List Blk),m'=e.strs.length - i'∧i'≤e.strs.length∧(∀j,j < i'→okAt a e.strs j=true) ∧
    V.int .i64 ((i:Int)+1)=.int .i64 (i':Nat)∧S++B :: (X++Y)=S++B :: X':=fun a B Y ea q =>
   ⟨e.strs.length - (i+1),by omega,i+1,X++Y,rfl,by omega,fun j hj=>by
    subst ea
    by_cases ej:j=i
    ·rw [ej]; exact q
    ·exact hok j (by omega),by simp,rfl⟩
  have fstrm:=fun X=>streamOk_ok s hsb hs X
  by_cases h0:i=0
  ·have hip:¬(i:Int) > 0:=by omega
   rcases Bool.eq_false_or_eq_true e.ans with ha | ha
   ·simp -implicitDefEqProofs (maxSteps:=1000000) (disch:=omega) only [push_cast,simprocAttr,h1,h6,h7,h8,hb,hat,hid,hip,ha,↓gd]
    refine ((fstrm _).as rfl).to ?_
    cases hso:stOk s
    ·simp -implicitDefEqProofs (maxSteps:=1000000) (disch:=omega) only [push_cast,simprocAttr,h1,h6,h7,h8,↓gd]
     exact fin1 (.bool _) (by rw [bad (by rw [hx,hso]; rfl)])
    ·simp -implicitDefEqProofs (maxSteps:=1000000) (disch:=omega) only [push_cast,simprocAttr,h1,h6,h7,h8,↓gd]
     exact next _ _ _ ha (okf hso (.inl h0) (.inl ha))
   ·by_cases h1d:s.id=2 * (i:Int)+1
    ·have hd:=eq_true h1d
     simp -implicitDefEqProofs (maxSteps:=1000000) (disch:=omega) only [push_cast,simprocAttr,h1,h6,h7,h8,hb,hat,hid,hip,ha,hd,↓gd]
     repeat refine And.intro (by omega) ?_
     refine ((fstrm _).as rfl).to ?_
     cases hso:stOk s
     ·simp -implicitDefEqProofs (maxSteps:=1000000) (disch:=omega) only [push_cast,simprocAttr,h1,h6,h7,h8,↓gd]
      exact fin1 (.bool _) (by rw [bad (by rw [hx,hso]; rfl)])
     ·simp -implicitDefEqProofs (maxSteps:=1000000) (disch:=omega) only [push_cast,simprocAttr,h1,h6,h7,h8,↓gd]
      exact next _ _ _ ha (okf hso (.inl h0) (.inr h1d))
    ·simp -implicitDefEqProofs (maxSteps:=1000000) (disch:=omega) only [push_cast,simprocAttr,h1,h6,h7,h8,hb,hat,hid,hip,ha,h1d,↓gd]
     repeat refine And.intro (by omega) ?_
     exact fin1 (.bool _) (by rw [bad (by rw [hx,ha,decide_eq_false h1d]; simp)])
  ·have hip:(i:Int) > 0:=by omega
   have hi0:((i:Int) - 1).toNat=i - 1:=by omega
   have hid':=hid' (by omega)
   by_cases hlt:s.id≤p.id
   ·simp -implicitDefEqProofs (maxSteps:=1000000) (disch:=omega) only [push_cast,simprocAttr,h1,h6,h7,h8,hb,hat,hid,hip,hid',hi0,hlt,↓gd]
    repeat refine And.intro (by omega) ?_
    exact fin1 (.bool _) (by rw [bad (by rw [hx,decide_eq_false h0,decide_eq_false (by omega:¬p.id < s.id)]; simp)])
   ·rcases Bool.eq_false_or_eq_true e.ans with ha | ha
    ·simp -implicitDefEqProofs (maxSteps:=1000000) (disch:=omega) only [push_cast,simprocAttr,h1,h6,h7,h8,hb,hat,hid,hip,hid',hi0,hlt,ha,↓gd]
     repeat refine And.intro (by omega) ?_
     refine ((fstrm _).as rfl).to ?_
     cases hso:stOk s
     ·simp -implicitDefEqProofs (maxSteps:=1000000) (disch:=omega) only [push_cast,simprocAttr,h1,h6,h7,h8,↓gd]
      exact fin1 (.bool _) (by rw [bad (by rw [hx,hso]; rfl)])
     ·simp -implicitDefEqProofs (maxSteps:=1000000) (disch:=omega) only [push_cast,simprocAttr,h1,h6,h7,h8,↓gd]
      exact next _ _ _ ha (okf hso (.inr (by omega)) (.inl ha))
    ·by_cases h1d:s.id=2 * (i:Int)+1
     ·have hd:=eq_true h1d
      simp -implicitDefEqProofs (maxSteps:=1000000) (disch:=omega) only [push_cast,simprocAttr,h1,h6,h7,h8,hb,hat,hid,hip,hid',hi0,hlt,ha,hd,↓gd]
      repeat refine And.intro (by omega) ?_
      refine ((fstrm _).as rfl).to ?_
      cases hso:stOk s
      ·simp -implicitDefEqProofs (maxSteps:=1000000) (disch:=omega) only [push_cast,simprocAttr,h1,h6,h7,h8,↓gd]
       exact fin1 (.bool _) (by rw [bad (by rw [hx,hso]; rfl)])
      ·simp -implicitDefEqProofs (maxSteps:=1000000) (disch:=omega) only [push_cast,simprocAttr,h1,h6,h7,h8,↓gd]
       exact next _ _ _ ha (okf hso (.inr (by omega)) (.inr h1d))
     ·simp -implicitDefEqProofs (maxSteps:=1000000) (disch:=omega) only [push_cast,simprocAttr,h1,h6,h7,h8,hb,hat,hid,hip,hid',hi0,hlt,ha,h1d,↓gd]
      repeat refine And.intro (by omega) ?_
      exact fin1 (.bool _) (by rw [bad (by rw [hx,ha,decide_eq_false h1d]; simp)])
 ·have:i=e.strs.length:=by omega
  subst this
  have hsts:stsOk e.ans e.strs=true:=by rw [stsOk,List.all_eq_true]; exact fun j hj=>hok j (List.mem_range.1 hj)
  have hE:endOk e=(e.wait.all frameOk && tableOk e.out e.outM && tableOk e.inn e.innM && flowOk e.send e.room && decide (e.came.length≤600) && decide (e.wait.length≤60)):=by
   simp only [endOk,hsts,Bool.true_and]
  by_cases hw:(e.wait.length:Int)≤60
  ·simp -implicitDefEqProofs (maxSteps:=1000000) (disch:=omega) only [push_cast,simprocAttr,h1,hc,hw,↓gd]
   have hcf:=fun X=>ContainsFuncF_ok e.wait 60 [] (fun f=>!frameOk f) (by omega) (c:=c) (S++X) (frmsC_in hc X) (fun g hg=>(endOk1_ok g _).as rfl)
   refine ((hcf _).as rfl).to ?_
   have hany:e.wait.any (fun f=>!frameOk f)=!e.wait.all frameOk:=by
    rw [List.all_eq_not_any_not,Bool.not_not]
   rw [hany]
   cases hall:e.wait.all frameOk
   ·simp -implicitDefEqProofs (maxSteps:=1000000) (disch:=omega) only [push_cast,simprocAttr,h1,↓gd]
    exact fin1 (.bool _) (by rw [hE,hall]; rfl)
   by_cases hcm:(e.came.length:Int)≤600
   ·simp -implicitDefEqProofs (maxSteps:=1000000) (disch:=omega) only [push_cast,simprocAttr,h1,hcm,↓gd]
    refine ((TableOk_ok e.out e.outM he.out _).as rfl).to ?_
    cases ht1:tableOk e.out e.outM
    ·simp -implicitDefEqProofs (maxSteps:=1000000) (disch:=omega) only [push_cast,simprocAttr,h1,↓gd]
     exact fin1 (.bool _) (by rw [hE,ht1]; simp)
    simp -implicitDefEqProofs (maxSteps:=1000000) (disch:=omega) only [push_cast,simprocAttr,h1,↓gd]
    refine ((TableOk_ok e.inn e.innM he.inn _).as rfl).to ?_
    cases ht2:tableOk e.inn e.innM
    ·simp -implicitDefEqProofs (maxSteps:=1000000) (disch:=omega) only [push_cast,simprocAttr,h1,↓gd]
     exact fin1 (.bool _) (by rw [hE,ht2]; simp)
    simp -implicitDefEqProofs (maxSteps:=1000000) (disch:=omega) only [push_cast,simprocAttr,h1,↓gd]
    refine ((FlowOk_ok e.send e.room _).as rfl).to ?_
    simp -implicitDefEqProofs (maxSteps:=1000000) (disch:=omega) only [push_cast,simprocAttr,h1,↓gd]
    exact fin1 (.bool _) (by rw [hE,hall,ht1,ht2,decide_eq_true (by omega:e.came.length≤600),decide_eq_true (by omega:e.wait.length≤60)]; simp)
   ·simp -implicitDefEqProofs (maxSteps:=1000000) (disch:=omega) only [push_cast,simprocAttr,h1,hcm,↓gd]
    exact fin1 (.bool _) (by rw [hE]; simp; omega)
  ·simp -implicitDefEqProofs (maxSteps:=1000000) (disch:=omega) only [push_cast,simprocAttr,h1,hw,↓gd]
   exact fin1 (.bool _) (by rw [hE]; simp; omega)
end
section
open Go
structure PtrAt (S:List Blk) (p b c:Nat) (e:En):Prop where
 var:S[p]?=some (.cells 0 (enC (.heap b e.strs.length) (.heap c e.wait.length) e))
 at_:EnAt S b c e
theorem PtrAt.nes {S:List Blk} {p b c:Nat} {e:En} (h:PtrAt S p b c e):b≠p∧c≠p∧b≠c∧p < S.length∧b < S.length∧c < S.length :=
 ⟨cells_ne h.at_.1 h.var (by decide),cells_ne h.at_.2 h.var (by decide),h.at_.ne,lt_of_some h.var,lt_of_some h.at_.1,lt_of_some h.at_.2⟩
structure PtrTo (S:List Blk) (p b c:Nat) (e:En) (b' c':Nat) (S':List Blk):Prop where
 at_:PtrAt S' p b' c' e
 hb:b'=b∨S.length≤b'
 hc:c'=c∨S.length≤c'
 upd:Upd [p,b,c] S S'
theorem PtrAt.app {S:List Blk} {p b c:Nat} {e:En} (h:PtrAt S p b c e) (X:List Blk):PtrAt (S++X) p b c e:=⟨by rw [List.getElem?_append_left (lt_of_some h.var)]; exact h.var,h.at_.app X⟩
theorem PtrTo.refl {S:List Blk} {p b c:Nat} {e:En} (h:PtrAt S p b c e):PtrTo S p b c e b c S:=⟨h,.inl rfl,.inl rfl,Upd.refl _ _⟩
theorem PtrTo.stay {S X:List Blk} {p b c:Nat} {e:En} (h:PtrAt S p b c e):PtrTo S p b c e b c (S++X):=⟨h.app X,.inl rfl,.inl rfl,(Upd.refl _ _).app X⟩
theorem PtrTo.trans {S S1 S2:List Blk} {p b c b1 c1 b2 c2:Nat} {e1 e2:En} (h:PtrTo S p b c e1 b1 c1 S1) (k:PtrTo S1 p b1 c1 e2 b2 c2 S2):PtrTo S p b c e2 b2 c2 S2:=by
 have hl:=h.upd.1
 have hb:=h.hb; have hc:=h.hc
 refine ⟨k.at_,?_,?_,h.upd.then_ k.upd fun j hj hm=>?_⟩
 ·rcases k.hb with e | e <;> omega
 ·rcases k.hc with e | e <;> omega
 ·simp only [List.mem_cons,List.not_mem_nil,or_false] at hm ⊢
  omega
theorem PtrTo.app {S X:List Blk} {p b c:Nat} {e:En} {b' c':Nat} {S':List Blk} (h:PtrTo (S++X) p b c e b' c' S'):PtrTo S p b c e b' c' S':=by
 have hb:=h.hb; have hc:=h.hc
 rw [List.length_append] at hb hc
 exact ⟨h.at_,by omega,by omega,((Upd.refl [p,b,c] S).app X).then_ h.upd (fun j hj hm=>hm)⟩
theorem PtrTo.mk' {S:List Blk} {p b c:Nat} {e:En} (b' c':Nat) {S':List Blk} (hv:S'[p]?=some (.cells 0 (enC (.heap b' e.strs.length) (.heap c' e.wait.length) e))) (h1:S'[b']?=some (.cells 12 (strsC e.strs))) (h2:S'[c']?=some (.cells 4 (frmsC e.wait)))
  (hb:b'=b∨S.length≤b') (hc:c'=c∨S.length≤c') (hu:Upd [p,b,c] S S'):PtrTo S p b c e b' c' S':=⟨⟨hv,h1,h2⟩,hb,hc,hu⟩
def atP (l:List St) (b:Nat) (id:Int):V:=match atM l id with
 | some k=>.ptr b (k * 12)
 | none=>.nilp
def ErL:List V→List V→Prop
 | [],[]=>True
 | v :: vs,u :: us=>(u=v∨u=eraseC v)∧ErL vs us
 | _,_=>False
theorem ErL.len:∀{vs us:List V},ErL vs us→vs.length=us.length
 | [],[],_=>rfl
 | v :: vs,u :: us,h=>by rw [List.length_cons,List.length_cons,h.2.len]
 | [],_ :: _,h=>h.elim
 | _ :: _,[],h=>h.elim
theorem ErL.at_:∀{vs us:List V},ErL vs us→∀(i:Nat) (v u:V),vs[i]?=some v→us[i]?=some u→u=v∨u=eraseC v
 | [],[],_,i,v,u,hv,_=>by simp at hv
 | v :: vs,u :: us,h,0,v',u',hv,hu=>by cases hv; cases hu; exact h.1
 | v :: vs,u :: us,h,i+1,v',u',hv,hu=>h.2.at_ i v' u' hv hu
 | [],_ :: _,h,_,_,_,_,_=>h.elim
 | _ :: _,[],h,_,_,_,_,_=>h.elim
theorem Wk.er {S0 S:List Blk} {cs ds:List V} (h:ErL cs ds):Wk S0 (.agg cs) S (.agg ds) S:=by
 intro G0 w0 G w c hR0 hE hv hR
 refine ⟨G,?_,hR,hE⟩
 cases hv with
 | agg hl hr ho =>
  refine .agg (by rw [←h.len]; exact hl) (fun i v u hv hu=>?_) ho
  have hi:=List.getElem?_eq_some_iff.1 hv
  obtain ⟨hi,_⟩:=hi
  have hc:cs[i]?=some (cs[i]'(by rw [h.len]; exact hi)):=List.getElem?_eq_getElem _
  rcases h.at_ i _ v hc hv with e | e
  ·rw [e]; exact hr i _ u hc hu
  ·rw [e]; exact eraseC_ok (hr i _ u hc hu)
theorem EndNew_ok (a:Bool) (S:List Blk):VCall Tryz.prog 19 [.bool a] S fun r S'=>RNew S (newEn a) r S':=by
 refine VCall.en hDe Tryz.func19 Tryz.ntmps19 Tryz.results19 ?_
 simp -implicitDefEqProofs (disch:=omega) only [push_cast,simprocAttr,↓gd]
 obtain ⟨r,S2,h1,h2⟩:=fin_new (S:=S) (S1:=S++[.cells 0 [V.bool a,V.nils,V.int .i64 64,V.nils,V.int .i64 64,V.str [],V.nils,V.int .i64 16,V.int .i64 16,V.nils,V.bool false]]) (r:=enV .nils .nils (newEn a)) (e:=newEn a) rfl rfl ((Upd.refl _ _).app _) rfl rfl
 have e1:ErL [V.bool a,V.nils,V.int .i64 64,V.nils,V.int .i64 64,V.str [],V.nils,V.int .i64 16,V.int .i64 16,V.nils,V.bool false] [V.bool a,.rows none [],V.int .i64 64,.rows none [],V.int .i64 64,V.str [],V.nils,V.int .i64 16,V.int .i64 16,V.nils,V.bool false]:=⟨.inl rfl,.inr rfl,.inl rfl,.inr rfl,.inl rfl,.inl rfl,.inl rfl,.inl rfl,.inl rfl,.inl rfl,.inl rfl,trivial⟩
 exact ⟨r,S2,Wk.trans (Wk.er e1) h1,h2⟩
theorem newStream_ok (id:Int) (S:List Blk):VCall Tryz.prog 67 [.int .i64 id] S fun r S'=>r=stV (newSt id)∧S'=S:=by
 refine VCall.en hD Tryz.func67 Tryz.ntmps67 Tryz.results67 ?_
 simp -implicitDefEqProofs (disch:=omega) only [push_cast,simprocAttr,↓gd]
 exact finE (stV_cl _ (newSt id)) rfl
theorem stream_ok {e:En} (he:EnB e) {S:List Blk} {p b c:Nat} (h:PtrAt S p b c e) (id:Int):VCall Tryz.prog 93 [.ptr p 0,.int .i64 id] S fun r S'=>r=atP e.strs b id∧S'=S:=by
 have hv:=h.var
 have hb:=h.at_.1
 have hpl:=lt_of_some hv
 have hbl:=lt_of_some hb
 have hel:=he.len
 have hlen:=strsC_len e.strs
 refine VCall.en hDe Tryz.func93 Tryz.ntmps93 Tryz.results93 ?_
 simp -implicitDefEqProofs (disch:=omega) only [push_cast,simprocAttr,hv,↓gd]
 refine wpV_loop (fun m t S1=>∃i:Nat,m=e.strs.length - i∧i≤e.strs.length∧(∀j,j < i→(e.strs.getD j st0).id≠id)∧t 0=.ptr p 0∧t 1=.int .i64 id∧t 10=.int .i64 e.strs.length∧t 11=.int .i64 i∧S1=S) e.strs.length
  ⟨0,by omega,by omega,by omega,rfl,rfl,rfl,rfl,rfl⟩ ?_
 rintro m t S1 ⟨i,rfl,hi,hno,h0,h1,h10,h11,rfl⟩
 refine wpV_of0 hDe ?_
 simp -implicitDefEqProofs (disch:=omega) only [push_cast,simprocAttr,h0,h1,h10,h11,hv,↓gd]
 refine ⟨fun h=>?_,fun h=>?_⟩
 ·have hil:i < e.strs.length:=by omega
  have hid:=strsC_id hil
  by_cases hq:(e.strs.getD i st0).id=id
  ·simp -implicitDefEqProofs (disch:=omega) only [push_cast,simprocAttr,h0,h1,h10,h11,hv,hb,hid,hq,↓gd]
   repeat refine And.intro (by omega) ?_
   exact fin0 (by rw [atP,atM_at hil hno hq])
  ·simp -implicitDefEqProofs (disch:=omega) only [push_cast,simprocAttr,h0,h1,h10,h11,hv,hb,hid,hq,↓gd]
   repeat refine And.intro (by omega) ?_
   refine ⟨e.strs.length - (i+1),by omega,i+1,rfl,by omega,fun j hj=>?_,by simp⟩
   by_cases e1:j=i
   ·rw [e1]; exact hq
   ·exact hno j (by omega)
 ·exact fin0 (by rw [atP,atM_no (fun j hj=>hno j (by omega))])
theorem widen_ok {N:Nat} {e:En} (hW:EnW N e) (hN:N≤1100000) {f:Fr} (hf:frameOk f=true) {S:List Blk} {p b c:Nat} (h:PtrAt S p b c e):VCall Tryz.prog 71 [.ptr p 0,frV f] S fun r S'=>r=.tup []∧PtrTo S p b c (roomM e f) b c S':=by
 have he:=hW.b hN
 have hfl:=hW.flows
 have hsts:=hW.sts
 have hfn:=(frameOk_nat hf).2.1
 obtain ⟨ans,out,outM,inn,innM,came,strs,snd,rm,wait,bad⟩:=e
 simp only at hfl hsts
 obtain ⟨n1,n2,n3,n4,n5,n6⟩:=h.nes
 have hv:S[p]?=some (.cells 0 (enC (.heap b strs.length) (.heap c wait.length) ⟨ans,out,outM,inn,innM,came,strs,snd,rm,wait,bad⟩)):=h.var
 have hb:S[b]?=some (.cells 12 (strsC strs)):=h.at_.1
 have hc:S[c]?=some (.cells 4 (frmsC wait)):=h.at_.2
 have hlen:=strsC_len strs
 have hm8:=frameOk_more hf
 obtain ⟨fk,fl,fs,fb⟩:=f
 simp only at hfn
 refine VCall.ex hDe (fun _=>false) (fun id=>if id=7 then [13,13,13,13,13,13,13,13,13,13,13,13,13,14] else []) Tryz.func71 Tryz.ntmps71 Tryz.results71 ?_
 by_cases hk:fk=8
 ·subst hk
  obtain ⟨x,rfl,hx1,hx2,rfl⟩:∃x:UInt8,fb=[x]∧1≤x.toNat∧x.toNat≤31∧fl=false:=hm8 rfl
  have hx0:([x]:List UInt8).getD 0 0=x:=rfl
  have emin:∀a:Int,(if a < (31:Int) then a else (31:Int))=min a 31:=fun a=>by omega
  by_cases hs0:fs=0
  ·subst hs0
   have hm:roomM ⟨ans,out,outM,inn,innM,came,strs,snd,rm,wait,bad⟩ ⟨8,false,0,[x]⟩=⟨ans,out,outM,inn,innM,came,strs,snd,min (rm+x.toNat) 31,wait,bad⟩:=by simp [roomM,byteAt]
   rw [hm]
   simp -implicitDefEqProofs (disch:=omega) only [push_cast,simprocAttr,hv,hx0,emin,↓gd]
   refine ⟨_,_,Wk.refl _ _ _,rfl,PtrTo.mk' b c ?_ ?_ ?_ (.inl rfl) (.inl rfl) (((Upd.refl _ _).set _ (.inr (by simp))).app _)⟩
   ·simp -implicitDefEqProofs (disch:=omega) only [push_cast,simprocAttr,↓gd]
   ·simp -implicitDefEqProofs (disch:=omega) only [push_cast,simprocAttr,hb,↓gd]
   ·simp -implicitDefEqProofs (disch:=omega) only [push_cast,simprocAttr,hc,↓gd]
  ·have hgt:fs > 0:=by omega
   simp -implicitDefEqProofs (disch:=omega) only [push_cast,simprocAttr,hv,hx0,hgt,↓gd]
   refine ((stream_ok he (h.app _) fs).as rfl).to ?_
   cases ha:atM strs fs with
   | none =>
    have hap:atP strs b fs=.nilp:=by rw [atP,ha]
    have hm:roomM ⟨ans,out,outM,inn,innM,came,strs,snd,rm,wait,bad⟩ ⟨8,false,fs,[x]⟩=⟨ans,out,outM,inn,innM,came,strs,snd,rm,wait,bad⟩:=by rw [roomM]; simp only [ha,hs0]; simp
    rw [hm]
    simp -implicitDefEqProofs (disch:=omega) only [push_cast,simprocAttr,hap,↓gd]
    exact ⟨_,_,Wk.refl _ _ _,rfl,.stay h⟩
   | some k =>
    obtain ⟨hk,hid⟩:=atM_some ha
    have hap:atP strs b fs=.ptr b (k * 12):=by rw [atP,ha]
    have hsf:=stOk_flow (stsOk_at hsts hk)
    have hrm:=strsC_get hk (c:=11) (by decide)
    have hput:∀v s',strC s'=(strC (strs.getD k st0)).set 11 v→splice (strsC strs) (k * 12+11) [v]=strsC (strs.set k s'):=fun v s'=>strsC_put hk (by decide)
    have hm:roomM ⟨ans,out,outM,inn,innM,came,strs,snd,rm,wait,bad⟩ ⟨8,false,fs,[x]⟩=⟨ans,out,outM,inn,innM,came,strs.set k { strs.getD k st0 with room:=min ((strs.getD k st0).room+x.toNat) 31 },snd,rm,wait,bad⟩:=by
     rw [roomM]; simp only [ha,hs0,stAt,setSt]; simp [byteAt]
    rw [hm]
    clear hm hid
    generalize strs.getD k st0=s at hrm hput hsf
    obtain ⟨sid,sst,shd,ssay,sbg,ssd,ssent,sgot,stx,shrd,ssnd,srm⟩:=s
    simp only at hsf
    have hput:=hput _ ⟨sid,sst,shd,ssay,sbg,ssd,ssent,sgot,stx,shrd,ssnd,min (srm+x.toNat) 31⟩ rfl
    simp -implicitDefEqProofs (disch:=omega) only [push_cast,simprocAttr,hap,hv,hb,hrm,hx0,emin,hput,↓gd]
    repeat refine And.intro (by omega) ?_
    refine ⟨_,_,Wk.refl _ _ _,rfl,PtrTo.mk' b c ?_ ?_ ?_ (.inl rfl) (.inl rfl) (((Upd.refl _ _).set _ (.inr (by simp))).app _)⟩
    ·simp -implicitDefEqProofs (disch:=omega) only [push_cast,simprocAttr,hv,↓gd]
    ·simp -implicitDefEqProofs (disch:=omega) only [push_cast,simprocAttr,↓gd]
    ·simp -implicitDefEqProofs (disch:=omega) only [push_cast,simprocAttr,hc,↓gd]
 ·have hm:roomM ⟨ans,out,outM,inn,innM,came,strs,snd,rm,wait,bad⟩ ⟨fk,fl,fs,fb⟩=⟨ans,out,outM,inn,innM,came,strs,snd,rm,wait,bad⟩:=by simp [roomM,hk]
  rw [hm]
  simp -implicitDefEqProofs (disch:=omega) only [push_cast,simprocAttr,hk,↓gd]
  exact ⟨_,_,Wk.refl _ _ _,rfl,.stay h⟩
end
end Go.Proofs.YtaamlddnpamomaaGreatDoor
