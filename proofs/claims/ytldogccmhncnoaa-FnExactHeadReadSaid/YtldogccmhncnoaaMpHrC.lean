/- A part of the proof: contracts of functions, or plain facts on which these lean. -/
import Derived.Test.YtldogccmhncnoaaMp18
import Derived.Test.YtldogccmhncnoaaMp21
namespace Go.Proofs.Ytldogccmhncnoaa
open Go
set_option linter.unusedVariables false
set_option linter.unusedSimpArgs false
set_option maxRecDepth 100000
set_option maxHeartbeats 16000000

section
open Go
theorem FL.ea {S:List Blk} {l:List Fd} {v u:V} (h:FL S l v) (hu:erase1 u=u):eraseArgs [v,u]=[v,u]:=by
 cases h
 ·show [erase1 (.rows none (l.map fV)),erase1 u]=_
  rw [hu]
  rfl
 ·rename_i p hp
  show [erase1 (.heap p l.length),erase1 u]=_
  rw [hu]
  rfl
theorem FnExactHeadRead_ok (m:List Fd × Int) (b:List UInt8) (hz:ZL ZF m.1) (hbz:b.length≤mxL) (S:List Blk):VCall Try.prog 3 [.agg [.rows none (m.1.map fV),.int .i64 m.2],.str b] S fun r S'=>r=.bool true:=by
 obtain ⟨l,max⟩:=m
 simp only at hz ⊢
 refine VCall.ex hDf (fun _=>false) (fun id=>if id=12 then [3,2,3,5,5] else []) Try.func3 Try.ntmps3 Try.results3 ?_
 unfold mxL at hbz
 by_cases hb:(b.length:Int) > 1048576
 ·simp -implicitDefEqProofs (maxSteps:=1000000) (disch:=omega) only [push_cast,simprocAttr,hb,↓gd]
  exact ⟨_,_,Wk.refl _ _ _,rfl⟩
 simp -implicitDefEqProofs (maxSteps:=1000000) (disch:=omega) only [push_cast,simprocAttr,hb,↓gd]
 refine ((szTable_ok l max hz 1048576 (by omega) (by omega) _).as (by rfl)).to ?_
 by_cases hc:((cFs l:Nat):Int)≤1048576
 rotate_left
 ·rw [subN_no hc]
  simp -implicitDefEqProofs (maxSteps:=1000000) (disch:=omega) only [push_cast,simprocAttr,↓gd]
  exact ⟨_,_,Wk.refl _ _ _,rfl⟩
 rw [subN_in hc]
 have hn:¬((1048576:Int) - ((cFs l:Nat):Int) < 0):=by omega
 have hl:FdsB l:=cFs_b (by omega)
 have hl1:=hl.1
 clear hz
 have hspec:=fun (Z:List Blk)=>sHeadRead_ok l max b hl (by omega) Z
 have himplR:=fun (Z:List Blk)=>HeadRead_ok l max b hl (by omega) Z
 have himpl:=fun (Z:List Blk) (v:V) (q:FL Z l v)=>HeadRead_L l max b hl (by omega) q
 simp only [hrV_X] at hspec himplR
 generalize hrX max (hrM l max b)=X at *
 obtain ⟨x,mx,h,ok⟩:=X
 simp only [HrO] at hspec himplR himpl
 simp -implicitDefEqProofs (maxSteps:=1000000) (disch:=omega) only [push_cast,simprocAttr,hn,↓gd]
 refine ((toTable_R l max hl _).as (by rfl)).to ?_
 simp -implicitDefEqProofs (maxSteps:=1000000) (disch:=omega) only [push_cast,simprocAttr,↓gd]
 refine ((hspec _).as (by rfl)).to ?_
 simp -implicitDefEqProofs (maxSteps:=1000000) (disch:=omega) only [push_cast,simprocAttr,↓gd]
 refine ((toTable_O l max hl _).as (by rfl)).mono ?_
 rintro r S3 ⟨po,rfl,f1,f2,f3⟩
 have kC:=f3.get (j:=S.length) (B:=Blk.cells 0 [.rows none (l.map fV),.int .i64 max]) (by simp -implicitDefEqProofs (maxSteps:=1000000) (disch:=omega) only [push_cast,simprocAttr,↓gd]) (by simp)
 have wC:=f3.get (j:=S.length+1) (B:=Blk.cells 0 [.rows none (x.map fV),.int .i64 mx]) (by simp -implicitDefEqProofs (maxSteps:=1000000) (disch:=omega) only [push_cast,simprocAttr,↓gd]) (by simp)
 have lC:=lt_of_some kC
 have lwC:=lt_of_some wC
 have lf1:=lt_of_some f1
 simp at f2
 simp -implicitDefEqProofs (maxSteps:=1000000) (disch:=omega) only [push_cast,simprocAttr,kC,wC,↓gd]
 refine ((himpl _ (.heap po l.length) (.own (p:=po) (by rw [List.getElem?_append_left lf1]; exact f1))).as (by rfl)).mono ?_
 rintro r S4 ⟨u4,hx,hh,v0,v1,rfl,g0,g1,ap⟩
 have kD:=u4.get (j:=S.length) (B:=Blk.cells 0 [.rows none (l.map fV),.int .i64 max]) (by simp -implicitDefEqProofs (maxSteps:=1000000) (disch:=omega) only [push_cast,simprocAttr,kC,↓gd]) (by simp)
 have wD:=u4.get (j:=S.length+1) (B:=Blk.cells 0 [.rows none (x.map fV),.int .i64 mx]) (by simp -implicitDefEqProofs (maxSteps:=1000000) (disch:=omega) only [push_cast,simprocAttr,wC,↓gd]) (by simp)
 have xD:=u4.get (j:=S3.length) (B:=Blk.cells 0 [.heap po l.length,.int .i64 max]) (by simp -implicitDefEqProofs (maxSteps:=1000000) (disch:=omega) only [push_cast,simprocAttr,↓gd]) (by simp)
 have qx:FO (S.length+2) l (.heap po l.length) S4:=⟨hl1,.inr ⟨po,by omega,rfl,u4.get (by rw [List.getElem?_append_left lf1]; exact f1) (by simp)⟩⟩
 have lD:=lt_of_some kD
 have lwD:=lt_of_some wD
 have lxD:=lt_of_some xD
 have b0:∀p ∈ fbOf v0,S3.length+1≤p∧p < S4.length:=fun p hp=>by have:=g0.lo p hp; simpa using this
 have b1:∀p ∈ fbOf v1,S3.length+1≤p∧p < S4.length:=fun p hp=>by have:=g1.lo p hp; simpa using this
 have o0:=g0.fl.one
 have o1:=g1.fl.one
 have e0:=g0.fl.er
 have e1:=g1.fl.er
 have c0:=g0.fl.er1
 have c1:=g1.fl.er1
 obtain ⟨K,hK⟩:∃n,1+3 * l.length=n:=⟨_,rfl⟩
 obtain ⟨M1,hM1⟩:∃n,1+3 * x.length=n:=⟨_,rfl⟩
 obtain ⟨M2,hM2⟩:∃n,M1+3 * h.length=n:=⟨_,rfl⟩
 have hKn:¬(K:Int) < 0:=by omega
 have hM1n:¬(M1:Int) < 0:=by omega
 have hM2n:¬(M2:Int) < 0:=by omega
 have hx2:x.length≤2000000:=by omega
 have hh2:h.length≤2000000:=by omega
 have mk1:=fun (Z:List Blk) (q:FO (S.length+2) l (.heap po l.length) Z)=>markTable_F max 1 (by omega) q
 have mk2:=fun (Z:List Blk) (q:FO (S3++[Blk.cells 0 [.heap po l.length,.int .i64 max]]).length x v0 Z)=>markTable_F mx 1 (by omega) q
 have mk3:=fun (Z:List Blk) (q:FO (S3++[Blk.cells 0 [.heap po l.length,.int .i64 max]]).length h v1 Z)=>markFieldS_F M1 (by omega) q
 have hd1:=fun (Z:List Blk) (q:FL Z (mkFs x.length 1) v0)=>heldTable_F mx 1 hx2 (by omega) q
 have hd2:=fun (Z:List Blk) (q:FL Z (mkFs h.length M1) v1)=>heldFieldS_F M1 hh2 (by omega) q
 rw [hK] at mk1
 rw [hM1] at mk2 hd1
 rw [hM2] at mk3 hd2
 simp -implicitDefEqProofs (maxSteps:=1000000) (disch:=omega) only [push_cast,simprocAttr,kD,wD,xD,o0,o1,e0,e1,c0,c1,↓gd]
 refine ((eqTable_F mx hx2 (g0.app _).fl .rows).as (by first | rfl | simp [e0,c0])).to ?_
 simp -implicitDefEqProofs (maxSteps:=1000000) (disch:=omega) only [push_cast,simprocAttr,kD,wD,xD,o0,o1,e0,e1,c0,c1,↓gd]
 refine ((eqFieldS_F hh2 (g1.app _).fl .rows).as (g1.fl.ea rfl)).to ?_
 simp -implicitDefEqProofs (maxSteps:=1000000) (disch:=omega) only [push_cast,simprocAttr,kD,wD,xD,o0,o1,e0,e1,c0,c1,↓gd]
 refine ((toTable_R l max hl _).as (by rfl)).to ?_
 simp -implicitDefEqProofs (maxSteps:=1000000) (disch:=omega) only [push_cast,simprocAttr,kD,wD,xD,o0,o1,e0,e1,c0,c1,↓gd]
 refine ((eqTable_F max hl1 (qx.app _).fl .rows).as (by rfl)).to ?_
 simp -implicitDefEqProofs (maxSteps:=1000000) (disch:=omega) only [push_cast,simprocAttr,kD,wD,xD,o0,o1,e0,e1,c0,c1,↓gd]
 refine ((mk1 _ (qx.app _)).as (by rfl)).mono ?_
 rintro r S5 ⟨rfl,qx5,u5⟩
 have kE:=u5.get (j:=S.length) (B:=Blk.cells 0 [.rows none (l.map fV),.int .i64 max]) (by simp -implicitDefEqProofs (maxSteps:=1000000) (disch:=omega) only [push_cast,simprocAttr,kD,↓gd]) (by simp [fbOf]; omega)
 have wE:=u5.get (j:=S.length+1) (B:=Blk.cells 0 [.rows none (x.map fV),.int .i64 mx]) (by simp -implicitDefEqProofs (maxSteps:=1000000) (disch:=omega) only [push_cast,simprocAttr,wD,↓gd]) (by simp [fbOf]; omega)
 have gE:=u5.get (j:=S4.length) (B:=Blk.cells 0 [v0,.int .i64 mx]) (by simp -implicitDefEqProofs (maxSteps:=1000000) (disch:=omega) only [push_cast,simprocAttr,↓gd]) (by simp [fbOf]; omega)
 have g0E:=(g0.app _).keep u5 (fun p hp=>by have:=b0 p hp; simp [fbOf]; omega)
 have g1E:=(g1.app _).keep u5 (fun p hp=>by have:=b1 p hp; simp [fbOf]; omega)
 have lE:=lt_of_some kE
 have lwE:=lt_of_some wE
 have lgE:=lt_of_some gE
 simp -implicitDefEqProofs (maxSteps:=1000000) (disch:=omega) only [push_cast,simprocAttr,kE,wE,gE,hKn,o0,o1,e0,e1,c0,c1,↓gd]
 refine ((eqTable_F mx hx2 g0E.fl .rows).as (by first | rfl | simp [e0,c0])).to ?_
 simp -implicitDefEqProofs (maxSteps:=1000000) (disch:=omega) only [push_cast,simprocAttr,kE,wE,gE,o0,o1,e0,e1,c0,c1,↓gd]
 refine ((eqFieldS_F hh2 g1E.fl .rows).as (g1.fl.ea rfl)).to ?_
 simp -implicitDefEqProofs (maxSteps:=1000000) (disch:=omega) only [push_cast,simprocAttr,kE,wE,gE,o0,o1,e0,e1,c0,c1,↓gd]
 refine ((mk2 _ g0E).as (by first | rfl | simp [e0,c0])).mono ?_
 rintro r S6 ⟨rfl,q0,u6⟩
 have kF:=u6.get kE (fun hp=>by have:=b0 _ hp; omega)
 have wF:=u6.get wE (fun hp=>by have:=b0 _ hp; omega)
 have gF:=u6.get gE (fun hp=>by have:=b0 _ hp; omega)
 have g1F:=g1E.keep u6 (fun p hp hq=>ap p hq hp)
 have lF:=lt_of_some kF
 have lwF:=lt_of_some wF
 have lgF:=lt_of_some gF
 simp -implicitDefEqProofs (maxSteps:=1000000) (disch:=omega) only [push_cast,simprocAttr,kF,wF,gF,o0,o1,e0,e1,c0,c1,↓gd]
 refine ((mk3 _ g1F).as (g1.fl.ea rfl)).mono ?_
 rintro r S7 ⟨rfl,q1,u7⟩
 have kG:=u7.get kF (fun hp=>by have:=b1 _ hp; omega)
 have wG:=u7.get wF (fun hp=>by have:=b1 _ hp; omega)
 have gG:=u7.get gF (fun hp=>by have:=b1 _ hp; omega)
 have q0G:=q0.keep u7 (fun p hp=>ap p hp)
 have lG:=lt_of_some kG
 have lwG:=lt_of_some wG
 have lgG:=lt_of_some gG
 simp -implicitDefEqProofs (maxSteps:=1000000) (disch:=omega) only [push_cast,simprocAttr,kG,wG,gG,o0,o1,e0,e1,c0,c1,↓gd]
 refine ((hd1 _ q0G.fl).as (by first | rfl | simp [e0,c0])).to ?_
 simp -implicitDefEqProofs (maxSteps:=1000000) (disch:=omega) only [push_cast,simprocAttr,kG,wG,gG,hM1n,o0,o1,e0,e1,c0,c1,↓gd]
 refine ((hd2 _ q1.fl).as (g1.fl.ea rfl)).to ?_
 simp -implicitDefEqProofs (maxSteps:=1000000) (disch:=omega) only [push_cast,simprocAttr,kG,wG,gG,hM2n,o0,o1,e0,e1,c0,c1,↓gd]
 refine ((toTable_R l max hl _).as (by rfl)).to ?_
 simp -implicitDefEqProofs (maxSteps:=1000000) (disch:=omega) only [push_cast,simprocAttr,kG,wG,gG,o0,o1,e0,e1,c0,c1,↓gd]
 refine ((himplR _).as (by rfl)).to ?_
 simp -implicitDefEqProofs (maxSteps:=1000000) (disch:=omega) only [push_cast,simprocAttr,kG,wG,gG,o0,o1,e0,e1,c0,c1,↓gd]
 refine ((eqTable_F mx hx2 .rows .rows).as (by rfl)).to ?_
 simp -implicitDefEqProofs (maxSteps:=1000000) (disch:=omega) only [push_cast,simprocAttr,kG,wG,gG,o0,o1,e0,e1,c0,c1,↓gd]
 refine ((eqFieldS_F hh2 .rows .rows).as (by rfl)).to ?_
 simp -implicitDefEqProofs (maxSteps:=1000000) (disch:=omega) only [push_cast,simprocAttr,kG,wG,gG,o0,o1,e0,e1,c0,c1,↓gd]
 refine ((hd1 _ (q0G.app _).fl).as (by first | rfl | simp [e0,c0])).to ?_
 simp -implicitDefEqProofs (maxSteps:=1000000) (disch:=omega) only [push_cast,simprocAttr,kG,wG,gG,hM1n,o0,o1,e0,e1,c0,c1,↓gd]
 refine ((hd2 _ (q1.app _).fl).as (g1.fl.ea rfl)).to ?_
 simp -implicitDefEqProofs (maxSteps:=1000000) (disch:=omega) only [push_cast,simprocAttr,kG,wG,gG,hM2n,o0,o1,e0,e1,c0,c1,↓gd]
 exact ⟨_,_,Wk.refl _ _ _,rfl⟩
end
end Go.Proofs.Ytldogccmhncnoaa
