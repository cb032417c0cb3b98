/- A part of the proof: contracts of functions, or plain facts on which these lean. -/
import Derived.Test.YtldogccmhncnoaaGreatDoorMi36
import Derived.Test.YtldogccmhncnoaaGreatDoorMi39
namespace Go.Proofs.YtldogccmhncnoaaGreatDoor
open Go
set_option linter.unusedVariables false
set_option linter.unusedSimpArgs false
set_option maxRecDepth 100000
set_option maxHeartbeats 16000000

section
open Go
theorem FnExactWorldDo_ok (w:Wo) (v:Ev) (hz:ZW w) (hzv:ZV v) (S:List Blk):VCall Tryz.prog 4 [worV w,evV v] S fun r S'=>r=.bool true:=by
 refine VCall.ex hDe (fun _=>false) (fun id=>if id=8 then [6,1000000,6,1000000,1000000,1000000,7,5] else if id=10 then [5,5,1000000,1000000,1000000,6,4] else if id=13 then [3,2,3,5,5] else if id=27 then [6,1000000,6,1000000,1000000,1000000,7,5] else []) Tryz.func4 Tryz.ntmps4 Tryz.results4 ?_
 simp -implicitDefEqProofs (maxSteps:=1000000) (disch:=omega) only [push_cast,simprocAttr,↓gd]
 refine ((szWorld_ok w hz 1048576 (by omega) (by omega) _).as (by rfl)).to ?_
 by_cases hc:((cW w:Nat):Int)≤1048576
 rotate_left
 ·rw [subN_no hc]
  simp -implicitDefEqProofs (maxSteps:=1000000) (disch:=omega) only [push_cast,simprocAttr,↓gd]
  exact ⟨_,_,Wk.refl _ _ _,rfl⟩
 rw [subN_in hc]
 have hn:¬((1048576:Int) - ((cW w:Nat):Int) < 0):=by omega
 have hcnt:=cntW_c w
 have hB:WoB w:=cW_b (by omega)
 have hn1:¬((1048576:Int) - ((cW w:Nat):Int) < 0):=by omega
 simp -implicitDefEqProofs (maxSteps:=1000000) (disch:=omega) only [push_cast,simprocAttr,hn,↓gd]
 refine ((szEvent_ok v hzv (1048576 - ((cW w:Nat):Int)) (by omega) (by omega) _).as (by rfl)).to ?_
 by_cases hc2:((cV v:Nat):Int)≤1048576 - ((cW w:Nat):Int)
 rotate_left
 ·rw [subN_no hc2]
  simp -implicitDefEqProofs (maxSteps:=1000000) (disch:=omega) only [push_cast,simprocAttr,↓gd]
  exact ⟨_,_,Wk.refl _ _ _,rfl⟩
 rw [subN_in hc2]
 have hn2:¬((1048576:Int) - ((cW w:Nat):Int) - ((cV v:Nat):Int) < 0):=by omega
 have hv:EvB v:=cV_b (by omega)
 clear hz
 have hXB:=worldDoM_b hB v
 have hsm:=do_small (w:=w) v
 have hspec:=fun (Z:List Blk) {b c d f:Nat} (q:WoAt Z b c d f w)=>sWorldDo_ok hB v hv q
 have himpl:=fun (Z:List Blk) (p q:XP) (h:WX Z p q w)=>WorldDo_O hB v hv h
 have himplR:=fun (Z:List Blk) {b c d f:Nat} (q:WoAt Z b c d f w)=>WorldDo_ok hB v hv q
 generalize worldDoM w v=x at *
 simp -implicitDefEqProofs (maxSteps:=1000000) (disch:=omega) only [push_cast,simprocAttr,hn2,↓gd]
 refine ((toWorld_R w hB _).as (by rfl)).mono ?_
 rintro r S1 ⟨b1,c1,d1,f1,rfl,q1⟩
 have kA:=q1.upd.get (j:=S.length) (B:=(Blk.cells 0 (worC w))) (by simp -implicitDefEqProofs (maxSteps:=1000000) (disch:=omega) only [push_cast,simprocAttr,↓gd]) (by simp)
 have lA:=lt_of_some kA
 have aA1:=q1.upd.get (j:=S.length+1) (B:=(Blk.cells 0 [V.int .i64 v.kind,.int .i64 v.a,.int .i64 v.b,.str v.path,.str v.text])) (by simp -implicitDefEqProofs (maxSteps:=1000000) (disch:=omega) only [push_cast,simprocAttr,↓gd]) (by simp)
 simp -implicitDefEqProofs (maxSteps:=1000000) (disch:=omega) only [push_cast,simprocAttr,kA,aA1,↓gd]
 refine ((toEvent_ok v _).as (by rfl)).to ?_
 simp -implicitDefEqProofs (maxSteps:=1000000) (disch:=omega) only [push_cast,simprocAttr,kA,aA1,↓gd]
 refine ((hspec _ q1.at_).as (by rfl)).mono ?_
 rintro r S2 ⟨b2,c2,d2,f2,rfl,q2⟩
 have kB:=q2.upd.get kA (by simp)
 have aB1:=q2.upd.get aA1 (by simp)
 have lB:=lt_of_some kB
 have laB1:=lt_of_some aB1
 simp -implicitDefEqProofs (maxSteps:=1000000) (disch:=omega) only [push_cast,simprocAttr,kA,kB,aA1,aB1,↓gd]
 first | refine ⟨rfl,?_⟩ | skip
 refine ((toWorld_O w hB _).as (by rfl)).mono ?_
 rintro r S3 ⟨po,pi,b3,c3,ls3,qo,qi,d3,f3,ks3,rfl,q3⟩
 have q3u:=q3.caller.upd
 have kC:=q3u.get (j:=S.length) (B:=(Blk.cells 0 (worC w))) (by simp -implicitDefEqProofs (maxSteps:=1000000) (disch:=omega) only [push_cast,simprocAttr,kB,↓gd]) (by simp)
 have aC1:=q3u.get (j:=S.length+1) (B:=(Blk.cells 0 [V.int .i64 v.kind,.int .i64 v.a,.int .i64 v.b,.str v.path,.str v.text])) (by simp -implicitDefEqProofs (maxSteps:=1000000) (disch:=omega) only [push_cast,simprocAttr,aB1,↓gd]) (by simp)
 have wC_:=q3u.get (j:=S2.length) (B:=(Blk.cells 0 (wC b2 c2 d2 f2 x))) (by simp -implicitDefEqProofs (maxSteps:=1000000) (disch:=omega) only [push_cast,simprocAttr,↓gd]) (by simp)
 have hwC:=(q2.at_.app [(Blk.cells 0 (wC b2 c2 d2 f2 x))]).keep q3u (by simp) (by simp) (by simp) (by simp)
 have lC:=lt_of_some kC
 have laC1:=lt_of_some aC1
 have lwC:=lt_of_some wC_
 simp -implicitDefEqProofs (maxSteps:=1000000) (disch:=omega) only [push_cast,simprocAttr,kC,wC_,aC1,↓gd]
 refine ((toEvent_ok v _).as (by rfl)).to ?_
 simp -implicitDefEqProofs (maxSteps:=1000000) (disch:=omega) only [push_cast,simprocAttr,kC,wC_,aC1,↓gd]
 refine ((himpl _ _ _ (q3.wx.app _)).as (by rfl)).mono ?_
 rintro r S4 ⟨go,gi,b4,c4,ls4,ho,hi,d4,f4,ks4,rfl,q4⟩
 have q4u:=q4.caller.upd
 have kD:=q4u.get (j:=S.length) (B:=(Blk.cells 0 (worC w))) (by simp -implicitDefEqProofs (maxSteps:=1000000) (disch:=omega) only [push_cast,simprocAttr,kC,↓gd]) (by simp)
 have aD1:=q4u.get (j:=S.length+1) (B:=(Blk.cells 0 [V.int .i64 v.kind,.int .i64 v.a,.int .i64 v.b,.str v.path,.str v.text])) (by simp -implicitDefEqProofs (maxSteps:=1000000) (disch:=omega) only [push_cast,simprocAttr,aC1,↓gd]) (by simp)
 have wD:=q4u.get (j:=S2.length) (B:=(Blk.cells 0 (wC b2 c2 d2 f2 x))) (by simp -implicitDefEqProofs (maxSteps:=1000000) (disch:=omega) only [push_cast,simprocAttr,wC_,↓gd]) (by simp)
 have xD:=q4u.get (j:=S3.length) (B:=(Blk.cells 0 (owC po pi b3 c3 qo qi d3 f3 w))) (by simp -implicitDefEqProofs (maxSteps:=1000000) (disch:=omega) only [push_cast,simprocAttr,↓gd]) (by simp)
 have hwD:=(hwC.app [(Blk.cells 0 (owC po pi b3 c3 qo qi d3 f3 w))]).keep q4u (by simp) (by simp) (by simp) (by simp)
 have hxD:=(q3.upd2 ((Upd.refl _ _).app [(Blk.cells 0 (owC po pi b3 c3 qo qi d3 f3 w))])).upd2 q4u
 have lD:=lt_of_some kD
 have laD1:=lt_of_some aD1
 have lwD:=lt_of_some wD
 have lxD:=lt_of_some xD
 simp -implicitDefEqProofs (maxSteps:=1000000) (disch:=omega) only [push_cast,simprocAttr,kC,wC_,kD,wD,xD,aC1,aD1,↓gd]
 first | refine ⟨rfl,?_⟩ | skip
 refine ((eqWorld_X hXB (q4.wx.app _) (hwD.wx.app _)).as (by rfl)).to ?_
 simp -implicitDefEqProofs (maxSteps:=1000000) (disch:=omega) only [push_cast,simprocAttr,kD,wD,xD,aD1,↓gd]
 refine ((toWorld_R w hB _).as (by rfl)).mono ?_
 rintro r S5 ⟨b5,c5,d5,f5,rfl,q5⟩
 have kE:=q5.upd.get (j:=S.length) (B:=(Blk.cells 0 (worC w))) (by simp -implicitDefEqProofs (maxSteps:=1000000) (disch:=omega) only [push_cast,simprocAttr,kD,↓gd]) (by simp)
 have aE1:=q5.upd.get (j:=S.length+1) (B:=(Blk.cells 0 [V.int .i64 v.kind,.int .i64 v.a,.int .i64 v.b,.str v.path,.str v.text])) (by simp -implicitDefEqProofs (maxSteps:=1000000) (disch:=omega) only [push_cast,simprocAttr,aD1,↓gd]) (by simp)
 have wE:=q5.upd.get (j:=S2.length) (B:=(Blk.cells 0 (wC b2 c2 d2 f2 x))) (by simp -implicitDefEqProofs (maxSteps:=1000000) (disch:=omega) only [push_cast,simprocAttr,wD,↓gd]) (by simp)
 have xE:=q5.upd.get (j:=S3.length) (B:=(Blk.cells 0 (owC po pi b3 c3 qo qi d3 f3 w))) (by simp -implicitDefEqProofs (maxSteps:=1000000) (disch:=omega) only [push_cast,simprocAttr,xD,↓gd]) (by simp)
 have gE:=q5.upd.get (j:=S4.length) (B:=(Blk.cells 0 (owC go gi b4 c4 ho hi d4 f4 x))) (by simp -implicitDefEqProofs (maxSteps:=1000000) (disch:=omega) only [push_cast,simprocAttr,↓gd]) (by simp)
 have hwE:=(hwD.app [(Blk.cells 0 (owC go gi b4 c4 ho hi d4 f4 x))]).keep q5.upd (by simp) (by simp) (by simp) (by simp)
 have hxE:=(hxD.upd2 ((Upd.refl _ _).app [(Blk.cells 0 (owC go gi b4 c4 ho hi d4 f4 x))])).upd2 q5.upd
 have hgE:=(q4.upd2 ((Upd.refl _ _).app [(Blk.cells 0 (owC go gi b4 c4 ho hi d4 f4 x))])).upd2 q5.upd
 have lE:=lt_of_some kE
 have laE1:=lt_of_some aE1
 have lwE:=lt_of_some wE
 have lxE:=lt_of_some xE
 have lgE:=lt_of_some gE
 have bx1:∀p ∈ wBlks po pi b3 c3 ls3 qo qi d3 f3 ks3,p < S3.length:=q3.below
 have bx2:∀p ∈ wBlks po pi b3 c3 ls3 qo qi d3 f3 ks3,S2.length+1≤p:=fun p hp=>by have:=q3.above p hp; simpa using this
 have bg1:∀p ∈ wBlks go gi b4 c4 ls4 ho hi d4 f4 ks4,p < S4.length:=q4.below
 have bg2:∀p ∈ wBlks go gi b4 c4 ls4 ho hi d4 f4 ks4,S3.length+1≤p:=fun p hp=>by have:=q4.above p hp; simpa using this
 have s01:S.length+1 < S2.length:=by have:=q2.upd.1; have:=q1.upd.1; simp at this; omega
 have s23:S2.length < S3.length:=by have:=q3u.1; simp at this; omega
 have s34:S3.length < S4.length:=by have:=q4u.1; simp at this; omega
 have wb:=lt_of_some q2.at_.caller.1
 have wc:=lt_of_some q2.at_.caller.2
 have wd:=lt_of_some q2.at_.answerer.1
 have wf:=lt_of_some q2.at_.answerer.2
 have hu23:Upd [] (S2++[(Blk.cells 0 (wC b2 c2 d2 f2 x))]) (S3++[(Blk.cells 0 (owC po pi b3 c3 qo qi d3 f3 w))]):=q3u.app _
 have hgE2:=hgE.of hu23
 obtain ⟨K,hK⟩:∃n,1+cntW w=n:=⟨_,rfl⟩
 obtain ⟨M,hM⟩:∃n,1+cntW x=n:=⟨_,rfl⟩
 have mk1:=fun (Z:List Blk) (q:WoO (S2++[(Blk.cells 0 (wC b2 c2 d2 f2 x))]) po pi b3 c3 ls3 qo qi d3 f3 ks3 w Z)=>markWorld_ok hB q 1 (by omega)
 have mk2:=fun (Z:List Blk) (q:WoO (S2++[(Blk.cells 0 (wC b2 c2 d2 f2 x))]) go gi b4 c4 ls4 ho hi d4 f4 ks4 x Z)=>markWorld_ok hXB q 1 (by omega)
 rw [hK] at mk1
 rw [hM] at mk2
 have hKn:¬(K:Int) < 0:=by omega
 have hMn:¬(M:Int) < 0:=by omega
 simp -implicitDefEqProofs (maxSteps:=1000000) (disch:=omega) only [push_cast,simprocAttr,kD,wD,xD,kE,wE,xE,gE,aD1,aE1,↓gd]
 refine ((eqWorld_X hB hxE.wx q5.at_.wx).as (by rfl)).to ?_
 simp -implicitDefEqProofs (maxSteps:=1000000) (disch:=omega) only [push_cast,simprocAttr,kE,wE,xE,gE,aE1,↓gd]
 refine ((mk1 _ hxE).as (by rfl)).mono ?_
 rintro r S6 ⟨rfl,q6,u6⟩
 have u6:Upd (wBlks po pi b3 c3 ls3 qo qi d3 f3 ks3) S5 S6:=u6
 have kF:=u6.get kE (fun hm=>by have:=bx2 _ hm; omega)
 have aF1:=u6.get aE1 (fun hm=>by have:=bx2 _ hm; omega)
 have wF:=u6.get wE (fun hm=>by have:=bx2 _ hm; omega)
 have xF:=u6.get xE (fun hm=>by have:=bx1 _ hm; omega)
 have gF:=u6.get gE (fun hm=>by have:=bx1 _ hm; omega)
 have hwF:=hwE.keep u6 (fun hm=>by have:=bx2 _ hm; omega) (fun hm=>by have:=bx2 _ hm; omega) (fun hm=>by have:=bx2 _ hm; omega) (fun hm=>by have:=bx2 _ hm; omega)
 have hgF:=hgE2.keep u6 (fun p hp hq=>by have:=bg2 _ hp; have:=bx1 _ hq; omega) (fun p hp=>by have:=bx2 _ hp; simpa using this)
 have lF:=lt_of_some kF
 have laF1:=lt_of_some aF1
 have lwF:=lt_of_some wF
 have lgF:=lt_of_some gF
 simp -implicitDefEqProofs (maxSteps:=1000000) (disch:=omega) only [push_cast,simprocAttr,kF,wF,gF,hKn,aF1,↓gd]
 refine ((eqWorld_X hXB hgF.wx hwF.wx).as (by rfl)).to ?_
 simp -implicitDefEqProofs (maxSteps:=1000000) (disch:=omega) only [push_cast,simprocAttr,kF,wF,gF,aF1,↓gd]
 refine ((mk2 _ hgF).as (by rfl)).mono ?_
 rintro r S7 ⟨rfl,q7,u7⟩
 have u7:Upd (wBlks go gi b4 c4 ls4 ho hi d4 f4 ks4) S6 S7:=u7
 have kG:=u7.get kF (fun hm=>by have:=bg2 _ hm; omega)
 have aG1:=u7.get aF1 (fun hm=>by have:=bg2 _ hm; omega)
 have wG:=u7.get wF (fun hm=>by have:=bg2 _ hm; omega)
 have gG:=u7.get gF (fun hm=>by have:=bg1 _ hm; omega)
 have hwG:=hwF.keep u7 (fun hm=>by have:=bg2 _ hm; omega) (fun hm=>by have:=bg2 _ hm; omega) (fun hm=>by have:=bg2 _ hm; omega) (fun hm=>by have:=bg2 _ hm; omega)
 have hxm:=q7.wx
 have lG:=lt_of_some kG
 have laG1:=lt_of_some aG1
 have lwG:=lt_of_some wG
 have lgG:=lt_of_some gG
 have held:=fun (Z:List Blk) (q:WX Z (xpO go gi b4 c4 (markLs ls4 x.caller 1) (markW x 1).caller) (xpO ho hi d4 f4 (markLs ks4 x.answerer (1+cntE x.caller)) (markW x 1).answerer) (markW x 1))=>heldWorld_X hXB 1 (by omega) q
 rw [hM] at held
 have hpv:pV (xpO go gi b4 c4 (markLs ls4 x.caller 1) (markW x 1).caller) (xpO ho hi d4 f4 (markLs ks4 x.answerer (1+cntE x.caller)) (markW x 1).answerer) (markW x 1)=.agg (owC go gi b4 c4 ho hi d4 f4 x):=by
  have e1:(markW x 1).caller=markE x.caller 1:=rfl
  have e2:(markW x 1).answerer=markE x.answerer (1+cntE x.caller):=rfl
  rw [e1,e2,xpO_mark go gi b4 c4 ls4,xpO_mark ho hi d4 f4 ks4,pV_mark]
  rfl
 rw [hpv] at held
 simp -implicitDefEqProofs (maxSteps:=1000000) (disch:=omega) only [push_cast,simprocAttr,kG,wG,gG,aG1,↓gd]
 refine ((held _ hxm).as (by rfl)).to ?_
 simp -implicitDefEqProofs (maxSteps:=1000000) (disch:=omega) only [push_cast,simprocAttr,kG,wG,gG,hMn,aG1,↓gd]
 refine ((toWorld_R w hB _).as (by rfl)).mono ?_
 rintro r S8 ⟨b8,c8,d8,f8,rfl,q8⟩
 have kH:=q8.upd.get kG (by simp)
 have aH1:=q8.upd.get aG1 (by simp)
 have wH:=q8.upd.get wG (by simp)
 have gH:=q8.upd.get gG (by simp)
 have hwH:=hwG.keep q8.upd (by simp) (by simp) (by simp) (by simp)
 have hmH:=hxm.upd q8.upd
 have lH:=lt_of_some kH
 have laH1:=lt_of_some aH1
 have lwH:=lt_of_some wH
 have lgH:=lt_of_some gH
 simp -implicitDefEqProofs (maxSteps:=1000000) (disch:=omega) only [push_cast,simprocAttr,kG,wG,gG,kH,wH,gH,aG1,aH1,↓gd]
 refine ((toEvent_ok v _).as (by rfl)).to ?_
 simp -implicitDefEqProofs (maxSteps:=1000000) (disch:=omega) only [push_cast,simprocAttr,kH,wH,gH,aH1,↓gd]
 refine ((himplR _ q8.at_).as (by rfl)).mono ?_
 rintro r S9 ⟨b9,c9,d9,f9,rfl,q9⟩
 have wI:=q9.upd.get wH (by simp)
 have gI:=q9.upd.get gH (by simp)
 have hwI:=hwH.keep q9.upd (by simp) (by simp) (by simp) (by simp)
 have hmI:=hmH.upd q9.upd
 have lwI:=lt_of_some wI
 have lgI:=lt_of_some gI
 have kI:=q9.upd.get kH (by simp)
 have aI1:=q9.upd.get aH1 (by simp)
 simp -implicitDefEqProofs (maxSteps:=1000000) (disch:=omega) only [push_cast,simprocAttr,kH,wH,gH,kI,wI,gI,aH1,aI1,↓gd]
 first | refine ⟨rfl,?_⟩ | skip
 refine ((eqWorld_X hXB (q9.at_.wx.app _) (hwI.wx.app _)).as (by rfl)).to ?_
 simp -implicitDefEqProofs (maxSteps:=1000000) (disch:=omega) only [push_cast,simprocAttr,wI,gI,↓gd]
 refine ((held _ (hmI.app _)).as (by rfl)).to ?_
 simp -implicitDefEqProofs (maxSteps:=1000000) (disch:=omega) only [push_cast,simprocAttr,wI,gI,hMn,↓gd]
 exact ⟨_,_,Wk.refl _ _ _,rfl⟩
end
end Go.Proofs.YtldogccmhncnoaaGreatDoor
