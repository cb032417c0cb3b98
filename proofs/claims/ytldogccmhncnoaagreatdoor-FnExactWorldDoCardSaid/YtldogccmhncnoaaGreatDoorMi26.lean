/- A part of the proof: contracts of functions, or plain facts on which these lean. -/
import Derived.Test.YtldogccmhncnoaaGreatDoorMi25
namespace Go.Proofs.YtldogccmhncnoaaGreatDoor
open Go
set_option linter.unusedVariables false
set_option linter.unusedSimpArgs false
set_option maxRecDepth 100000
set_option maxHeartbeats 16000000

section
open Go
structure WoB (w:Wo):Prop where
 caller:EnB w.caller
 answerer:EnB w.answerer
 up:w.up.length≤1100000
 down:w.down.length≤1100000
theorem WoW.b {N:Nat} {w:Wo} (h:WoW N w) (hN:N≤1100000):WoB w:=⟨h.caller.b hN,h.answerer.b hN,by have:=h.up; omega,by have:=h.down; omega⟩
theorem sWorldOk_ok {w:Wo} (hB:WoB w) {S:List Blk} {b c d f:Nat} (h:WoAt S b c d f w):VCall Tryz.prog 55 [wV b c d f w] S fun r S'=>r=.bool (woOk w)∧S'=S:=by
 have h1:=fun X=>sEndOk_at hB.caller (h.caller.app X)
 have h2:=fun X=>sEndOk_at hB.answerer (h.answerer.app X)
 refine VCall.en hDe Tryz.func55 Tryz.ntmps55 Tryz.results55 ?_
 simp -implicitDefEqProofs (disch:=omega) only [push_cast,simprocAttr,↓gd]
 refine ((h1 _).as (by simp [eV,enV,enC])).to ?_
 cases e1:endOk w.caller
 ·simp -implicitDefEqProofs (disch:=omega) only [push_cast,simprocAttr,↓gd]
  exact fin1 (.bool _) (by simp [woOk,e1])
 simp -implicitDefEqProofs (disch:=omega) only [push_cast,simprocAttr,↓gd]
 refine ((h2 _).as (by simp [eV,enV,enC])).to ?_
 cases e2:endOk w.answerer
 ·simp -implicitDefEqProofs (disch:=omega) only [push_cast,simprocAttr,↓gd]
  exact fin1 (.bool _) (by simp [woOk,e1,e2])
 rcases Bool.eq_false_or_eq_true w.caller.ans with e3 | e3
 ·simp -implicitDefEqProofs (disch:=omega) only [push_cast,simprocAttr,e3,↓gd]
  exact fin1 (.bool _) (by simp [woOk,e1,e2,e3])
 rcases Bool.eq_false_or_eq_true w.answerer.ans with e4 | e4
 ·by_cases e5:(w.up.length:Int)≤800
  ·have e5':w.up.length≤800:=by omega
   simp -implicitDefEqProofs (disch:=omega) only [push_cast,simprocAttr,e3,e4,e5,↓gd]
   exact fin1 (.bool _) (by simp only [woOk,e1,e2,e3,e4,decide_eq_true e5',Bool.true_and,Bool.not_false]; congr 1; exact decide_eq_decide.2 (by omega))
  ·have e5':¬w.up.length≤800:=by omega
   simp -implicitDefEqProofs (disch:=omega) only [push_cast,simprocAttr,e3,e4,e5,↓gd]
   exact fin1 (.bool _) (by simp [woOk,e5'])
 ·simp -implicitDefEqProofs (disch:=omega) only [push_cast,simprocAttr,e3,e4,↓gd]
  exact fin1 (.bool _) (by simp [woOk,e1,e2,e3,e4])
theorem l22Copy_ok {w:Wo} (hB:WoB w) {S:List Blk} {b c d f:Nat} (h:WoAt S b c d f w):VCall Tryz.prog 57 [wV b c d f w] S fun r S'=>RWNew S w r S':=by
 have h1:=fun X=>l21Copy_ok hB.caller (h.caller.app X)
 have h2:=fun S2 q=>l21Copy_ok hB.answerer (S:=S2) (b:=d) (c:=f) q
 refine VCall.ex hDe (fun _=>false) (fun id=>if id=1 then [2,2,5,5,5,11,11,11,11,11,11,12] else []) Tryz.func57 Tryz.ntmps57 Tryz.results57 ?_
 simp -implicitDefEqProofs (disch:=omega) only [push_cast,simprocAttr,↓gd]
 refine ((h1 _).as (by simp [eV,enV,enC])).mono ?_
 rintro r S1 ⟨b1,c1,rfl,n1⟩
 have k0:S1[S.length]?=some (.cells 0 (wC b c d f w)):=n1.upd.get (by simp -implicitDefEqProofs (disch:=omega) only [push_cast,simprocAttr,↓gd]) (by simp)
 have k1:S1[S.length+1]?=some (.cells 0 zW):=n1.upd.get (by simp -implicitDefEqProofs (disch:=omega) only [push_cast,simprocAttr,↓gd]) (by simp)
 simp -implicitDefEqProofs (disch:=omega) only [push_cast,simprocAttr,k0,k1,↓gd]
 refine ((h2 _ ((h.answerer.app _).upd n1.upd (by simp) (by simp))).as (by simp [eV,enV,enC])).mono ?_
 rintro r S2 ⟨d1,f1,rfl,n2⟩
 have k0':=n2.upd.get k0 (by simp)
 have k1':=n2.upd.get k1 (by simp)
 have l0:=lt_of_some k0'
 have l1:=lt_of_some k1'
 have hA:EnAt S2 b1 c1 w.caller:=n1.at_.upd n2.upd (by simp) (by simp)
 simp -implicitDefEqProofs (disch:=omega) only [push_cast,simprocAttr,k0,k1,k0',k1',↓gd]
 have hb1:=n1.hb; have hc1:=n1.hc; have hd1:=n2.hb; have hf1:=n2.hc
 have hbl:=lt_of_some n1.at_.1; have hcl:=lt_of_some n1.at_.2
 have hu:=n1.app.upd.trans n2.upd
 simp at hb1 hc1
 have hl1:=n1.upd.1
 simp at hl1
 refine ⟨_,_,Wk.refl _ _ _,b1,c1,d1,f1,rfl,⟨⟨hA.set _ (by omega) (by omega),n2.at_.set _ (by omega) (by omega),by omega,by omega⟩,by omega,by omega,by omega,by omega,hu.set _ (.inl (by omega))⟩⟩
theorem l22Hear_ok {N:Nat} {e:En} (hW:EnW N e) (hN:N≤900000) {bs:List UInt8} (hbs:bs.length≤1100000) {S:List Blk} {b c:Nat} (h:EnAt S b c e):VCall Tryz.prog 134 [eV b c e,.str bs] S fun r S'=>RTo S b c (hearWM e bs) r S':=by
 have hcm:=hW.came
 have hwn:=hW.len
 refine VCall.en hDe Tryz.func134 Tryz.ntmps134 Tryz.results134 ?_
 rw [hearWM]
 rcases Bool.eq_false_or_eq_true e.bad with hbad | hbad
 ·rw [if_pos (.inl hbad)]
  simp -implicitDefEqProofs (disch:=omega) only [push_cast,simprocAttr,hbad,↓gd]
  exact ⟨_,_,Wk.refl _ _ _,b,c,by simp -implicitDefEqProofs (disch:=omega) only [push_cast,simprocAttr,hbad,↓gd],EnTo.stay h⟩
 ·by_cases h4:(e.came.length:Int)+bs.length > 300
  ·rw [if_pos (.inr (.inl (by omega)))]
   simp -implicitDefEqProofs (disch:=omega) only [push_cast,simprocAttr,hbad,h4,↓gd]
   exact ⟨_,_,Wk.refl _ _ _,b,c,by simp -implicitDefEqProofs (disch:=omega) only [push_cast,simprocAttr,hbad,↓gd],EnTo.stay h⟩
  ·by_cases h5:(e.wait.length:Int) > 40
   ·rw [if_pos (.inr (.inr (by omega)))]
    simp -implicitDefEqProofs (disch:=omega) only [push_cast,simprocAttr,hbad,h4,h5,↓gd]
    exact ⟨_,_,Wk.refl _ _ _,b,c,by simp -implicitDefEqProofs (disch:=omega) only [push_cast,simprocAttr,hbad,↓gd],EnTo.stay h⟩
   ·rw [if_neg (by rw [hbad]; rintro (q | q | q); cases q; omega; omega)]
    have hcon:=fun X=>l21Hear_ok (bs:=bs) hW hN (by omega) (h.app X)
    simp -implicitDefEqProofs (disch:=omega) only [push_cast,simprocAttr,hbad,h4,h5,↓gd]
    refine ((hcon _).as (by simp [eV,enV,enC,hbad])).mono ?_
    rintro r S2 ⟨b2,c2,rfl,hto⟩
    have hbl:=lt_of_some h.1; have hcl:=lt_of_some h.2
    have k0:S2[S.length+1]?=some (.cells 0 zE):=hto.upd.get (by simp -implicitDefEqProofs (disch:=omega) only [push_cast,simprocAttr,↓gd]) (by simp; omega)
    have l0:=lt_of_some k0
    have hx:=hto.app
    generalize hearM e bs=y at *
    simp -implicitDefEqProofs (disch:=omega) only [push_cast,simprocAttr,k0,↓gd]
    exact ⟨_,_,Wk.refl _ _ _,b2,c2,rfl,hx.set _ (by omega) (cells_ne hto.at_.1 k0 (by decide)) (cells_ne hto.at_.2 k0 (by decide))⟩
end
section
open Go
theorem EnNew.toTo {S:List Blk} {e:En} {b' c':Nat} {S':List Blk} (h:EnNew S e b' c' S') (b c:Nat):EnTo S b c e b' c' S':=⟨h.at_,.inr h.hb,.inr h.hc,h.upd.mono (fun _ _ hm=>by cases hm)⟩
theorem WoTo.still {S S':List Blk} {b c d f:Nat} {w:Wo} (h:WoAt S b c d f w) (hu:Upd [] S S'):WoTo S b c d f w b c d f S' :=
 ⟨⟨h.caller.upd hu (by simp) (by simp),h.answerer.upd hu (by simp) (by simp),h.ne1,h.ne2⟩,.inl rfl,.inl rfl,.inl rfl,.inl rfl,hu.mono (fun _ _ hm=>by cases hm)⟩
theorem WoTo.withUp {S:List Blk} {b c d f:Nat} {w:Wo} {b' c' d' f':Nat} {S':List Blk} (h:WoTo S b c d f w b' c' d' f' S') (u v:List UInt8):WoTo S b c d f { w with up:=u,down:=v } b' c' d' f' S':=⟨⟨h.at_.caller,h.at_.answerer,h.at_.ne1,h.at_.ne2⟩,h.hb,h.hc,h.hd,h.hf,h.upd⟩
theorem writeM_len {N:Nat} {e:En} (h:EnW N e):(writeM e).2.length≤N * 300+8000:=by
 have h1:=waitM_len (N:=N) e.wait e h.wait
 obtain ⟨w1,w2,w3⟩:=waitM_w (N:=N) e.wait e h
 have h2:=saysM_len e.strs.length 0 { (waitM e e.wait).1 with wait:=[] } w1.noWait (by simp only [Nat.zero_add]; rw [w2]; exact Nat.le_refl _)
 have h3:=stsOk_len h.sts
 have h4:=h.len
 rw [writeM_eq]
 refine Nat.le_trans (Nat.le_of_eq List.length_append) ?_
 exact Nat.add_le_add (Nat.le_trans h1 (Nat.mul_le_mul_right _ h4)) (Nat.le_trans h2 (Nat.mul_le_mul_right 2000 h3))
theorem l22Say_ok {N:Nat} {w:Wo} (hW:WoW N w) (hN:N≤900000) (side:Int) {S:List Blk} {b c d f:Nat} (h:WoAt S b c d f w):VCall Tryz.prog 63 [wV b c d f w,.int .i64 side] S fun r S'=>RWTo S b c d f (sayWM w side) r S':=by
 have hB:=hW.b (by omega)
 have hup:=hB.up
 have hdn:=hB.down
 obtain ⟨n1,n2,n3,n4,n5,n6,n7,n8⟩:=h.nes
 refine VCall.en hDe Tryz.func63 Tryz.ntmps63 Tryz.results63 ?_
 by_cases hs:side=0
 ·subst hs
  have hcp:=fun X=>l21Copy_ok hB.caller (h.caller.app X)
  have hol:=writeM_len hW.caller
  have hm:sayWM w 0=if w.caller.bad=false∧w.up.length+(writeM w.caller).2.length≤800 then { w with caller:=(writeM w.caller).1,up:=w.up++(writeM w.caller).2 } else w:=rfl
  rw [hm]
  simp -implicitDefEqProofs (disch:=omega) only [push_cast,simprocAttr,↓gd]
  refine ((hcp _).as (by simp [eV,enV,enC])).mono ?_
  rintro r S1 ⟨b1,c1,rfl,q1⟩
  have k0:S1[S.length]?=some (.cells 0 (wC b c d f w)):=q1.upd.get (by simp -implicitDefEqProofs (disch:=omega) only [push_cast,simprocAttr,↓gd]) (by simp)
  have k1:S1[S.length+1]?=some (.cells 0 zW):=q1.upd.get (by simp -implicitDefEqProofs (disch:=omega) only [push_cast,simprocAttr,↓gd]) (by simp)
  simp -implicitDefEqProofs (disch:=omega) only [push_cast,simprocAttr,↓gd]
  refine ((l21Write_ok hW.caller (by omega) q1.at_).as (by simp [eV,enV,enC])).mono ?_
  rintro r S2 ⟨v,rfl,b2,c2,rfl,hto⟩
  have hb1:=q1.hb; have hc1:=q1.hc
  simp at hb1 hc1
  have k0:=hto.upd.get k0 (by simp; omega)
  have k1:=hto.upd.get k1 (by simp; omega)
  have l0:=lt_of_some k0
  have l1:=lt_of_some k1
  have hn:=(q1.to hto).app
  have h0:=h.caller_to (hn.toTo b c)
  have hst:=WoTo.still h hn.upd
  have v0:=h0.at_.var k0
  have v1:=h0.at_.var k1
  have v0':=hst.at_.var k0
  have v1':=hst.at_.var k1
  generalize hq:writeM w.caller=q at *
  obtain ⟨y,o⟩:=q
  simp only at *
  rcases Bool.eq_false_or_eq_true w.caller.bad with hbad | hbad
  ·rw [if_neg (by rw [hbad]; simp)]
   simp -implicitDefEqProofs (disch:=omega) only [push_cast,simprocAttr,k0,k1,hbad,↓gd]
   exact ⟨_,_,Wk.refl _ _ _,b,c,d,f,by simp -implicitDefEqProofs (disch:=omega) only [push_cast,simprocAttr,hbad,↓gd],(hst.set (j:=S.length+1) _ (by omega) v1').appR _⟩
  ·by_cases hl:(w.up.length:Int)+o.length≤800
   ·rw [if_pos ⟨hbad,by omega⟩]
    simp -implicitDefEqProofs (disch:=omega) only [push_cast,simprocAttr,k0,k1,hbad,hl,↓gd]
    repeat refine And.intro (by omega) ?_
    have h1:=h0.withUp (w.up++o) w.down
    exact ⟨_,_,Wk.refl _ _ _,b2,c2,d,f,rfl,((h1.set (j:=S.length) _ (by omega) v0).set (j:=S.length+1) _ (by omega) v1).appR _⟩
   ·rw [if_neg (by omega)]
    simp -implicitDefEqProofs (disch:=omega) only [push_cast,simprocAttr,k0,k1,hbad,hl,↓gd]
    exact ⟨_,_,Wk.refl _ _ _,b,c,d,f,by simp -implicitDefEqProofs (disch:=omega) only [push_cast,simprocAttr,hbad,↓gd],(hst.set (j:=S.length+1) _ (by omega) v1').appR _⟩
 ·by_cases hs1:side=1
  ·subst hs1
   have hcp:=fun X=>l21Copy_ok hB.answerer (h.answerer.app X)
   have hol:=writeM_len hW.answerer
   have hm:sayWM w 1=if w.answerer.bad=false∧w.down.length+(writeM w.answerer).2.length≤800 then { w with answerer:=(writeM w.answerer).1,down:=w.down++(writeM w.answerer).2 } else w:=rfl
   rw [hm]
   simp -implicitDefEqProofs (disch:=omega) only [push_cast,simprocAttr,↓gd]
   refine ((hcp _).as (by simp [eV,enV,enC])).mono ?_
   rintro r S1 ⟨b1,c1,rfl,q1⟩
   have k0:S1[S.length]?=some (.cells 0 (wC b c d f w)):=q1.upd.get (by simp -implicitDefEqProofs (disch:=omega) only [push_cast,simprocAttr,↓gd]) (by simp)
   have k1:S1[S.length+1]?=some (.cells 0 zW):=q1.upd.get (by simp -implicitDefEqProofs (disch:=omega) only [push_cast,simprocAttr,↓gd]) (by simp)
   simp -implicitDefEqProofs (disch:=omega) only [push_cast,simprocAttr,↓gd]
   refine ((l21Write_ok hW.answerer (by omega) q1.at_).as (by simp [eV,enV,enC])).mono ?_
   rintro r S2 ⟨v,rfl,b2,c2,rfl,hto⟩
   have hb1:=q1.hb; have hc1:=q1.hc
   simp at hb1 hc1
   have k0:=hto.upd.get k0 (by simp; omega)
   have k1:=hto.upd.get k1 (by simp; omega)
   have l0:=lt_of_some k0
   have l1:=lt_of_some k1
   have hn:=(q1.to hto).app
   have h0:=h.answerer_to (hn.toTo d f)
   have hst:=WoTo.still h hn.upd
   have v0:=h0.at_.var k0
   have v1:=h0.at_.var k1
   have v0':=hst.at_.var k0
   have v1':=hst.at_.var k1
   generalize hq:writeM w.answerer=q at *
   obtain ⟨y,o⟩:=q
   simp only at *
   rcases Bool.eq_false_or_eq_true w.answerer.bad with hbad | hbad
   ·rw [if_neg (by rw [hbad]; simp)]
    simp -implicitDefEqProofs (disch:=omega) only [push_cast,simprocAttr,k0,k1,hbad,↓gd]
    exact ⟨_,_,Wk.refl _ _ _,b,c,d,f,by simp -implicitDefEqProofs (disch:=omega) only [push_cast,simprocAttr,hbad,↓gd],(hst.set (j:=S.length+1) _ (by omega) v1').appR _⟩
   ·by_cases hl:(w.down.length:Int)+o.length≤800
    ·rw [if_pos ⟨hbad,by omega⟩]
     simp -implicitDefEqProofs (disch:=omega) only [push_cast,simprocAttr,k0,k1,hbad,hl,↓gd]
     repeat refine And.intro (by omega) ?_
     have h1:=h0.withUp w.up (w.down++o)
     exact ⟨_,_,Wk.refl _ _ _,b,c,b2,c2,rfl,((h1.set (j:=S.length) _ (by omega) v0).set (j:=S.length+1) _ (by omega) v1).appR _⟩
    ·rw [if_neg (by omega)]
     simp -implicitDefEqProofs (disch:=omega) only [push_cast,simprocAttr,k0,k1,hbad,hl,↓gd]
     exact ⟨_,_,Wk.refl _ _ _,b,c,d,f,by simp -implicitDefEqProofs (disch:=omega) only [push_cast,simprocAttr,hbad,↓gd],(hst.set (j:=S.length+1) _ (by omega) v1').appR _⟩
  ·have hm:sayWM w side=w:=by rw [sayWM,if_neg hs,if_neg hs1]
   rw [hm]
   simp -implicitDefEqProofs (disch:=omega) only [push_cast,simprocAttr,hs,hs1,↓gd]
   exact ⟨_,_,Wk.refl _ _ _,b,c,d,f,rfl,.stay h⟩
theorem l22Pass_ok {N:Nat} {w:Wo} (hW:WoW N w) (hN:N≤900000) (way n:Int) {S:List Blk} {b c d f:Nat} (h:WoAt S b c d f w):VCall Tryz.prog 102 [wV b c d f w,.int .i64 way,.int .i64 n] S fun r S'=>RWTo S b c d f (passM w way n) r S':=by
 have hB:=hW.b (by omega)
 have hup:=hB.up
 have hdn:=hB.down
 obtain ⟨n1,n2,n3,n4,n5,n6,n7,n8⟩:=h.nes
 refine VCall.ex hDe (fun _=>false) (fun id=>if id=6 then [6,6,6,6,6,6,8,8,9] else if id=10 then [6,6,6,6,6,6,8,8,9] else []) Tryz.func102 Tryz.ntmps102 Tryz.results102 ?_
 by_cases hin:0≤n∧n≤90
 ·have hm:passM w way n=if way=0 then { w with answerer:=hearWM w.answerer (w.up.take n.toNat),up:=w.up.drop n.toNat } else if way=1 then { w with caller:=hearWM w.caller (w.down.take n.toNat),down:=w.down.drop n.toNat } else w:=by rw [passM,if_pos hin]
  rw [hm]
  by_cases hs:way=0
  ·subst hs
   rw [if_pos rfl]
   have emin:(if (w.up.length:Int) < n then (w.up.length:Int) else n)=((min n.toNat w.up.length:Nat):Int):=by omega
   have etk:w.up.take (min n.toNat w.up.length)=w.up.take n.toNat:=by rw [List.take_eq_take_iff]; omega
   have edr:w.up.drop (min n.toNat w.up.length)=w.up.drop n.toNat:=by
    rw [List.drop_eq_drop_iff]; omega
   have hcon:=fun S2 q=>l22Hear_ok (bs:=w.up.take n.toNat) hW.answerer hN (by rw [List.length_take]; omega) (S:=S2) (b:=d) (c:=f) q
   simp -implicitDefEqProofs (disch:=omega) only [push_cast,simprocAttr,↓gd]
   refine (l6In_t hin _).to ?_
   simp -implicitDefEqProofs (disch:=omega) only [push_cast,simprocAttr,emin,etk,↓gd]
   repeat refine And.intro (by omega) ?_
   refine ((hcon _ (h.answerer.app _)).as (by simp [eV,enV,enC,List.drop_zero])).mono ?_
   rintro r S1 ⟨d1,f1,rfl,hto⟩
   have k0:S1[S.length]?=some (.cells 0 (wC b c d f w)):=hto.upd.get (by simp -implicitDefEqProofs (disch:=omega) only [push_cast,simprocAttr,↓gd]) (by simp; omega)
   have k1:S1[S.length+1]?=some (.cells 0 zW):=hto.upd.get (by simp -implicitDefEqProofs (disch:=omega) only [push_cast,simprocAttr,↓gd]) (by simp; omega)
   have l0:=lt_of_some k0
   have l1:=lt_of_some k1
   have h0:=h.answerer_to hto.app
   have v0:=h0.at_.var k0
   have v1:=h0.at_.var k1
   have h1:=h0.withUp (w.up.drop n.toNat) w.down
   generalize hearWM w.answerer (w.up.take n.toNat)=y at *
   simp -implicitDefEqProofs (disch:=omega) only [push_cast,simprocAttr,k0,k1,edr,List.take_length,↓gd]
   repeat refine And.intro (by omega) ?_
   exact ⟨_,_,Wk.refl _ _ _,b,c,d1,f1,rfl,((h1.set (j:=S.length) _ (by omega) v0).set (j:=S.length+1) _ (by omega) v1)⟩
  ·rw [if_neg hs]
   by_cases hs1:way=1
   ·subst hs1
    rw [if_pos rfl]
    have emin:(if (w.down.length:Int) < n then (w.down.length:Int) else n)=((min n.toNat w.down.length:Nat):Int):=by omega
    have etk:w.down.take (min n.toNat w.down.length)=w.down.take n.toNat:=by rw [List.take_eq_take_iff]; omega
    have edr:w.down.drop (min n.toNat w.down.length)=w.down.drop n.toNat:=by
     rw [List.drop_eq_drop_iff]; omega
    have hcon:=fun S2 q=>l22Hear_ok (bs:=w.down.take n.toNat) hW.caller hN (by rw [List.length_take]; omega) (S:=S2) (b:=b) (c:=c) q
    simp -implicitDefEqProofs (disch:=omega) only [push_cast,simprocAttr,↓gd]
    refine (l6In_t hin _).to ?_
    simp -implicitDefEqProofs (disch:=omega) only [push_cast,simprocAttr,emin,etk,↓gd]
    repeat refine And.intro (by omega) ?_
    refine ((hcon _ (h.caller.app _)).as (by simp [eV,enV,enC,List.drop_zero])).mono ?_
    rintro r S1 ⟨b1,c1,rfl,hto⟩
    have k0:S1[S.length]?=some (.cells 0 (wC b c d f w)):=hto.upd.get (by simp -implicitDefEqProofs (disch:=omega) only [push_cast,simprocAttr,↓gd]) (by simp; omega)
    have k1:S1[S.length+1]?=some (.cells 0 zW):=hto.upd.get (by simp -implicitDefEqProofs (disch:=omega) only [push_cast,simprocAttr,↓gd]) (by simp; omega)
    have l0:=lt_of_some k0
    have l1:=lt_of_some k1
    have h0:=h.caller_to hto.app
    have v0:=h0.at_.var k0
    have v1:=h0.at_.var k1
    have h1:=h0.withUp w.up (w.down.drop n.toNat)
    generalize hearWM w.caller (w.down.take n.toNat)=y at *
    simp -implicitDefEqProofs (disch:=omega) only [push_cast,simprocAttr,k0,k1,edr,List.take_length,↓gd]
    repeat refine And.intro (by omega) ?_
    exact ⟨_,_,Wk.refl _ _ _,b1,c1,d,f,rfl,((h1.set (j:=S.length) _ (by omega) v0).set (j:=S.length+1) _ (by omega) v1)⟩
   ·rw [if_neg hs1]
    simp -implicitDefEqProofs (disch:=omega) only [push_cast,simprocAttr,↓gd]
    refine (l6In_t hin _).to ?_
    simp -implicitDefEqProofs (disch:=omega) only [push_cast,simprocAttr,hs,hs1,↓gd]
    exact ⟨_,_,Wk.refl _ _ _,b,c,d,f,rfl,.stay h⟩
 ·have hm:passM w way n=w:=by rw [passM,if_neg hin]
  rw [hm]
  simp -implicitDefEqProofs (disch:=omega) only [push_cast,simprocAttr,↓gd]
  refine (l6In_f hin _).to ?_
  simp -implicitDefEqProofs (disch:=omega) only [push_cast,simprocAttr,↓gd]
  exact ⟨_,_,Wk.refl _ _ _,b,c,d,f,rfl,.stay h⟩
end
section
open Go
def evV (v:Ev):V:=.agg [.int .i64 v.kind,.int .i64 v.a,.int .i64 v.b,.str v.path,.str v.text]
@[push_cast] theorem evV_eq (v:Ev):evV v=.agg [.int .i64 v.kind,.int .i64 v.a,.int .i64 v.b,.str v.path,.str v.text]:=rfl
def EvB (v:Ev):Prop:=v.path.length≤2000000∧v.text.length≤2000000
theorem doM_kinds (w:Wo) (v:Ev) (k:Int) (h:v.kind=k):doM w v=if k=1 then { w with caller:=(callM w.caller v.path v.text).1 }
 else if k=2 then { w with caller:=(leaveM w.caller v.a).1 } else if k=3 then sayWM w v.a else if k=4 then passM w v.a v.b else w:=by rw [←h]; rfl
theorem l22Do_ok {N:Nat} {w:Wo} (hW:WoW N w) (hN:N≤900000) (v:Ev) (hv:EvB v) {S:List Blk} {b c d f:Nat} (h:WoAt S b c d f w):VCall Tryz.prog 56 [wV b c d f w,evV v] S fun r S'=>RWTo S b c d f (doM w v) r S':=by
 have hB:=hW.b (by omega)
 obtain ⟨n1,n2,n3,n4,n5,n6,n7,n8⟩:=h.nes
 have hcon1:=fun X=>l21Call_ok hW.caller (by omega) v.path v.text hv.1 hv.2 (h.caller.app X)
 have hcon2:=fun X=>l21Leave_ok hB.caller (h.caller.app X) v.a
 have hcon3:=fun X=>l22Say_ok hW hN v.a (h.app X)
 have hcon4:=fun X=>l22Pass_ok hW hN v.a v.b (h.app X)
 refine VCall.en hDe Tryz.func56 Tryz.ntmps56 Tryz.results56 ?_
 by_cases k1:v.kind=1
 ·rw [doM_kinds w v 1 k1,if_pos rfl]
  simp -implicitDefEqProofs (disch:=omega) only [push_cast,simprocAttr,k1,↓gd]
  refine ((hcon1 _).as (by simp [eV,enV,enC])).mono ?_
  rintro r S1 ⟨u,rfl,⟨b1,c1,rfl,hto⟩,hno⟩
  have q0:S1[S.length]?=some (.cells 0 (wC b c d f w)):=hto.upd.get (by simp -implicitDefEqProofs (disch:=omega) only [push_cast,simprocAttr,↓gd]) (by simp; omega)
  have q2:S1[S.length+2]?=some (.cells 0 zW):=hto.upd.get (by simp -implicitDefEqProofs (disch:=omega) only [push_cast,simprocAttr,↓gd]) (by simp; omega)
  have l0:=lt_of_some q0
  have l2:=lt_of_some q2
  have h0:=h.caller_to hto.app
  have v0:=h0.at_.var q0
  have v2:=h0.at_.var q2
  have hfail:(callM w.caller v.path v.text).2.2=false→(callM w.caller v.path v.text).1=w.caller:=by
   unfold callM
   split
   ·exact fun _=>rfl
   ·exact fun q=>by cases q
  generalize callM w.caller v.path v.text=y at *
  obtain ⟨y,i,ok⟩:=y
  simp only at *
  cases ok
  ·have e:=hfail rfl
   subst e
   have hst:WoTo S b c d f w b c d f S1:=⟨⟨hno rfl,h0.at_.answerer,n1 |> fun _=>h.ne1,h.ne2⟩,.inl rfl,.inl rfl,.inl rfl,.inl rfl,h0.upd⟩
   have v2':=hst.at_.var q2
   simp -implicitDefEqProofs (disch:=omega) only [push_cast,simprocAttr,q0,q2,k1,↓gd]
   exact ⟨_,_,Wk.refl _ _ _,b,c,d,f,rfl,(hst.set (j:=S.length+2) _ (by omega) v2').appR _⟩
  ·simp -implicitDefEqProofs (disch:=omega) only [push_cast,simprocAttr,q0,q2,k1,↓gd]
   exact ⟨_,_,Wk.refl _ _ _,b1,c1,d,f,rfl,((h0.set (j:=S.length) _ (by omega) v0).set (j:=S.length+2) _ (by omega) v2).appR _⟩
 by_cases k2:v.kind=2
 ·rw [doM_kinds w v 2 k2,if_neg (by decide),if_pos rfl]
  simp -implicitDefEqProofs (disch:=omega) only [push_cast,simprocAttr,k1,k2,↓gd]
  refine ((hcon2 _).as (by simp [eV,enV,enC])).mono ?_
  rintro r S1 ⟨u,rfl,b1,c1,rfl,hto⟩
  have q0:S1[S.length]?=some (.cells 0 (wC b c d f w)):=hto.upd.get (by simp -implicitDefEqProofs (disch:=omega) only [push_cast,simprocAttr,↓gd]) (by simp; omega)
  have q2:S1[S.length+2]?=some (.cells 0 zW):=hto.upd.get (by simp -implicitDefEqProofs (disch:=omega) only [push_cast,simprocAttr,↓gd]) (by simp; omega)
  have l0:=lt_of_some q0
  have l2:=lt_of_some q2
  have h0:=h.caller_to hto.app
  have v0:=h0.at_.var q0
  have v2:=h0.at_.var q2
  generalize leaveM w.caller v.a=y at *
  obtain ⟨y,ok⟩:=y
  simp only at *
  simp -implicitDefEqProofs (disch:=omega) only [push_cast,simprocAttr,q0,q2,k2,↓gd]
  exact ⟨_,_,Wk.refl _ _ _,b1,c1,d,f,rfl,((h0.set (j:=S.length) _ (by omega) v0).set (j:=S.length+2) _ (by omega) v2).appR _⟩
 by_cases k3:v.kind=3
 ·rw [doM_kinds w v 3 k3,if_neg (by decide),if_neg (by decide),if_pos rfl]
  simp -implicitDefEqProofs (disch:=omega) only [push_cast,simprocAttr,k1,k2,k3,↓gd]
  refine ((hcon3 _).as (by simp [wV,wC,enC])).mono ?_
  rintro r S1 ⟨b1,c1,d1,f1,rfl,hto⟩
  have q2:S1[S.length+2]?=some (.cells 0 zW):=hto.upd.get (by simp -implicitDefEqProofs (disch:=omega) only [push_cast,simprocAttr,↓gd]) (by simp; omega)
  have l2:=lt_of_some q2
  have h0:=hto.app
  have v2:=h0.at_.var q2
  generalize sayWM w v.a=y at *
  simp -implicitDefEqProofs (disch:=omega) only [push_cast,simprocAttr,q2,↓gd]
  exact ⟨_,_,Wk.refl _ _ _,b1,c1,d1,f1,rfl,h0.set (j:=S.length+2) _ (by omega) v2⟩
 by_cases k4:v.kind=4
 ·rw [doM_kinds w v 4 k4,if_neg (by decide),if_neg (by decide),if_neg (by decide),if_pos rfl]
  simp -implicitDefEqProofs (disch:=omega) only [push_cast,simprocAttr,k1,k2,k3,k4,↓gd]
  refine ((hcon4 _).as (by simp [wV,wC,enC])).mono ?_
  rintro r S1 ⟨b1,c1,d1,f1,rfl,hto⟩
  have q2:S1[S.length+2]?=some (.cells 0 zW):=hto.upd.get (by simp -implicitDefEqProofs (disch:=omega) only [push_cast,simprocAttr,↓gd]) (by simp; omega)
  have l2:=lt_of_some q2
  have h0:=hto.app
  have v2:=h0.at_.var q2
  generalize passM w v.a v.b=y at *
  simp -implicitDefEqProofs (disch:=omega) only [push_cast,simprocAttr,q2,↓gd]
  exact ⟨_,_,Wk.refl _ _ _,b1,c1,d1,f1,rfl,h0.set (j:=S.length+2) _ (by omega) v2⟩
 rw [doM_kinds w v v.kind rfl,if_neg k1,if_neg k2,if_neg k3,if_neg k4]
 simp -implicitDefEqProofs (disch:=omega) only [push_cast,simprocAttr,k1,k2,k3,k4,↓gd]
 exact ⟨_,_,Wk.refl _ _ _,b,c,d,f,rfl,.stay h⟩
theorem RWNew.zero {S X:List Blk}:∃r S2,Wk S (.agg zW) (S++X) r S2∧RWNew S wo0 r S2:=by
 let L:=(S++X).length
 have er:Wk S (.agg zW) (S++X) (.agg (enC .nils .nils en0++enC .nils .nils en0++[.str [],.str []])) (S++X):=by
  intro G0 w0 G w c hR0 hE hv hR
  refine ⟨G,?_,hR,hE⟩
  cases hv with
  | agg hl hr ho =>
   refine .agg hl (fun i v u hv hu=>?_) ho
   have hi:i < 24:=by
    have:=List.getElem?_eq_some_iff.1 hv
    simpa [enC] using this.1
   have hz:zW[i]?=some (zW[i]'(by simpa [zW,zE] using hi)):=List.getElem?_eq_getElem _
   have hr':=hr i _ u hz hu
   have:i=0∨i=1∨i=2∨i=3∨i=4∨i=5∨i=6∨i=7∨i=8∨i=9∨i=10∨i=11∨i=12∨i=13∨i=14∨i=15∨i=16∨i=17∨i=18∨i=19∨i=20∨i=21∨i=22∨i=23:=by omega
   rcases this with rfl | rfl | rfl | rfl | rfl | rfl | rfl | rfl | rfl | rfl | rfl | rfl | rfl | rfl | rfl | rfl | rfl | rfl | rfl | rfl | rfl | rfl | rfl | rfl <;>
    simp only [enC,en0,List.map_nil,List.cons_append,List.nil_append,List.getElem?_cons_zero,List.getElem?_cons_succ,Option.some.injEq] at hv <;> subst hv <;> first | exact hr' | exact eraseC_ok hr'
 have s1:=Wk.nh (S0:=S) (S:=S++X) 12 (NH.aggAt (n:=(S++X).length) (cs:=enC .nils .nils en0++enC .nils .nils en0++[V.str [],V.str []]) (i:=6) rfl)
 have s2:=Wk.nh (S0:=S) (S:=(S++X)++[Blk.cells 12 []]) 4 (NH.aggAt (n:=((S++X)++[Blk.cells 12 []]).length) (cs:=(enC .nils .nils en0++enC .nils .nils en0++[V.str [],V.str []]).set 6 (V.heap (S++X).length 0)) (i:=9) rfl)
 have s3:=Wk.nh (S0:=S) (S:=((S++X)++[Blk.cells 12 []])++[Blk.cells 4 []]) 12 (NH.aggAt (n:=(((S++X)++[Blk.cells 12 []])++[Blk.cells 4 []]).length) (cs:=((enC .nils .nils en0++enC .nils .nils en0++[V.str [],V.str []]).set 6 (V.heap (S++X).length 0)).set 9 (V.heap ((S++X)++[Blk.cells 12 []]).length 0)) (i:=17) rfl)
 have s4:=Wk.nh (S0:=S) (S:=(((S++X)++[Blk.cells 12 []])++[Blk.cells 4 []])++[Blk.cells 12 []]) 4 (NH.aggAt (n:=((((S++X)++[Blk.cells 12 []])++[Blk.cells 4 []])++[Blk.cells 12 []]).length)
  (cs:=(((enC .nils .nils en0++enC .nils .nils en0++[V.str [],V.str []]).set 6 (V.heap (S++X).length 0)).set 9 (V.heap ((S++X)++[Blk.cells 12 []]).length 0)).set 17 (V.heap (((S++X)++[Blk.cells 12 []])++[Blk.cells 4 []]).length 0)) (i:=20) rfl)
 have hl:S.length≤(S++X).length:=by simp
 refine ⟨_,_,(((er.trans s1).trans s2).trans s3).trans s4,(S++X).length,(S++X).length+1,(S++X).length+2,(S++X).length+3,?_,⟨⟨⟨?_,?_⟩,⟨?_,?_⟩,by omega,by omega⟩,hl,by omega,by omega,by omega,?_⟩⟩
 ·simp [wV,wC,enC,en0,wo0]
  omega
 ·generalize S++X=T; simp only [List.append_assoc,List.cons_append,List.nil_append]; rw [app_get0]; rfl
 ·generalize S++X=T; simp only [List.append_assoc,List.cons_append,List.nil_append]; rw [app_get]; rfl
 ·generalize S++X=T; simp only [List.append_assoc,List.cons_append,List.nil_append]; rw [app_get]; rfl
 ·generalize S++X=T; simp only [List.append_assoc,List.cons_append,List.nil_append]; rw [app_get]; rfl
 ·simp only [List.append_assoc]
  exact (Upd.refl _ _).app _
end
section
open Go
theorem woOk_w {w:Wo} (h:woOk w=true):WoW 60 w:=woOk_iff.1 h
theorem sWorldDo_ok {w:Wo} (hB:WoB w) (v:Ev) (hv:EvB v) {S:List Blk} {b c d f:Nat} (h:WoAt S b c d f w):VCall Tryz.prog 16 [wV b c d f w,evV v] S fun r S'=>RWNew S (worldDoM w v) r S':=by
 have hok:=fun X=>sWorldOk_ok hB (h.app X)
 have hcp:=fun X=>l22Copy_ok hB (h.app X)
 refine VCall.ex hDe (fun _=>false) (fun id=>if id=3 then [1,3,3,4,5] else []) Tryz.func16 Tryz.ntmps16 Tryz.results16 ?_
 simp -implicitDefEqProofs (disch:=omega) only [push_cast,simprocAttr,↓gd]
 refine ((hok _).as (by simp [wV,wC,enC])).to ?_
 cases hE:woOk w
 ·rw [worldDoM,if_pos hE]
  simp -implicitDefEqProofs (disch:=omega) only [push_cast,simprocAttr,↓gd]
  exact RWNew.zero
 ·rw [worldDoM,if_neg (by rw [hE]; simp)]
  simp -implicitDefEqProofs (disch:=omega) only [push_cast,simprocAttr,↓gd]
  refine ((hcp _).as (by simp [wV,wC,enC])).mono ?_
  rintro r S1 ⟨b1,c1,d1,f1,rfl,q1⟩
  have k0:S1[S.length]?=some (.cells 0 (wC b c d f w)):=q1.upd.get (by simp -implicitDefEqProofs (disch:=omega) only [push_cast,simprocAttr,↓gd]) (by simp)
  have k1:S1[S.length+1]?=some (.cells 0 [.int .i64 v.kind,.int .i64 v.a,.int .i64 v.b,.str v.path,.str v.text]):=q1.upd.get (by simp -implicitDefEqProofs (disch:=omega) only [push_cast,simprocAttr,↓gd]) (by simp)
  have k2:S1[S.length+2]?=some (.cells 0 zW):=q1.upd.get (by simp -implicitDefEqProofs (disch:=omega) only [push_cast,simprocAttr,↓gd]) (by simp)
  simp -implicitDefEqProofs (disch:=omega) only [push_cast,simprocAttr,k0,k1,k2,↓gd]
  refine ((l22Do_ok (woOk_w hE) (by decide) v hv q1.at_).as (by simp [wV,wC,enC,evV])).mono ?_
  rintro r S2 ⟨b2,c2,d2,f2,rfl,q2⟩
  have e1:=q1.hb; have e2:=q1.hc; have e3:=q1.hd; have e4:=q1.hf
  simp at e1 e2 e3 e4
  have k0':=q2.upd.get k0 (by simp; omega)
  have k1':=q2.upd.get k1 (by simp; omega)
  have k2':=q2.upd.get k2 (by simp; omega)
  have l2:=lt_of_some k2'
  have hn:=(q1.to q2).app
  have v2:=hn.at_.var k2'
  generalize doM w v=y at *
  simp -implicitDefEqProofs (disch:=omega) only [push_cast,simprocAttr,k0,k1,k2,k0',k1',k2',↓gd]
  exact ⟨_,_,Wk.refl _ _ _,b2,c2,d2,f2,rfl,hn.set (j:=S.length+2) _ (by omega) v2⟩
theorem playM_w:∀(l:List Ev),WoW (642+l.length) (playM l):=by
 have gen:∀(l:List Ev) (N:Nat) (w:Wo),642≤N→WoW N w→WoW (N+l.length) (l.foldl doM w):=by
  intro l
  induction l with
  | nil=>intro N w _ h; exact h
  | cons v l ih =>
   intro N w hN h
   have:=ih (N+1) (doM w v) (by omega) (doM_w h hN v)
   rw [List.foldl_cons,List.length_cons,show N+(l.length+1)=N+1+l.length by omega]
   exact this
 exact fun l=>gen l 642 newWo (Nat.le_refl _) (newWo_w.mono (by omega))
end
end Go.Proofs.YtldogccmhncnoaaGreatDoor
