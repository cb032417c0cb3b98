/- A part of the proof: contracts of functions, or plain facts on which these lean. -/
import Derived.Test.YtldogccmhncnoaaGreatMk23
import Derived.Test.YtldogccmhncnoaaGreatMk26
namespace Go.Proofs.YtldogccmhncnoaaGreat
open Go
set_option linter.unusedVariables false
set_option linter.unusedSimpArgs false
set_option maxRecDepth 100000
set_option maxHeartbeats 16000000

section
open Go
theorem mkFrs_get:∀n k i,i < n→(mkFrs n k).getD i fr0=mkFr (k+4 * i)
 | 0,_,_,h=>by omega
 | n+1,k,0,_=>rfl
 | n+1,k,i+1,h=>by
  rw [mkFrs,List.getD_cons_succ,mkFrs_get n (k+4) i (by omega),show k+4+4 * i=k+4 * (i+1) from by omega]
theorem mkSs_get:∀(l:List St) (k i:Nat),i < l.length→(mkSs l k).getD i st0=mkS (l.getD i st0) (k+cntSs (l.take i))
 | [],_,_,h=>by simp at h
 | s :: l,k,0,_=>rfl
 | s :: l,k,i+1,h=>by
  rw [mkSs,List.getD_cons_succ,List.getD_cons_succ,mkSs_get l (k+cntS s) i (by simpa using h),List.take_succ_cons,cntSs,Nat.add_assoc]
theorem cntSs_snoc {l:List St} {i:Nat} (h:i < l.length):cntSs (l.take (i+1))=cntSs (l.take i)+cntS (l.getD i st0):=by
 rw [take_st h,cntSs_app]
 simp [cntSs]
theorem heldFieldS_ok (n k:Nat) (hn:n≤2000000) (hk:k+3 * n≤90000000) (S:List Blk):VCall Tryz.prog 70 [.rows none ((mkFs n k).map fV),.int .i64 k] S fun r S'=>r=.int .i64 ((k+3 * n:Nat):Int)∧S'=S:=by
 have hml:=mkFs_len n k
 refine VCall.ex hD (fun _=>false) (fun id=>if id=4 then [8,8,8,8,8,6,8,8] else if id=7 then [8,8,8,8,8,6,8,8] else []) Tryz.func70 Tryz.ntmps70 Tryz.results70 ?_
 simp -implicitDefEqProofs (maxSteps:=1000000) (disch:=omega) only [push_cast,simprocAttr,↓gd]
 refine wpV_loop (fun m t S'=>∃i K:Nat,m=n - i∧i≤n∧K=k+3 * i∧t 0=.rows none ((mkFs n k).map fV)∧t 1=.int .i64 (K:Int)∧t 5=.int .i64 i∧S'=S) n ⟨0,k,by omega,by omega,by omega,rfl,rfl,rfl,rfl⟩ ?_
 rintro m t S' ⟨i,K0,rfl,hi,hK0,h0,h1,h5,rfl⟩
 refine wpV_of hD (fun _=>false) (fun id=>if id=4 then [8,8,8,8,8,6,8,8] else if id=7 then [8,8,8,8,8,6,8,8] else []) (by kernel_rfl) ?_
 by_cases hil:i < n
 ·have hil':(i:Int) < n:=by omega
  have hg:=getD_fV (l:=mkFs n k) (i:=i) (by rw [hml]; exact hil)
  rw [show (mkFs n k).getD i fd0=mkF (k+3 * i) from mkFs_get n k i hil,←hK0] at hg
  obtain ⟨K1,hK1⟩:∃n:Nat,n=K0+1:=⟨_,rfl⟩
  obtain ⟨K2,hK2⟩:∃n:Nat,n=K1+1:=⟨_,rfl⟩
  obtain ⟨K3,hK3⟩:∃n:Nat,n=K2+1:=⟨_,rfl⟩
  have hg:((mkFs n k).map fV).getD i .junk=V.agg [V.str (mtext K0),V.str (mtext K1),V.bool (decide (K2 % 3=0))]:=by
   rw [hg]
   subst hK2 hK1
   rfl
  have e0:(K0:Int)+1=(K1:Int):=by omega
  have x0:=fun T=>markText_ok K0 (by omega) T
  generalize hm0:mtext K0=m0 at *
  have e1:(K1:Int)+1=(K2:Int):=by omega
  have x1:=fun T=>markText_ok K1 (by omega) T
  generalize hm1:mtext K1=m1 at *
  have e2:(K2:Int)+1=(K3:Int):=by omega
  have d2:=dec3 K2
  generalize hb2:decide (K2 % 3=0)=bb2 at *
  simp -implicitDefEqProofs (maxSteps:=1000000) (disch:=omega) only [push_cast,simprocAttr,h0,h1,h5,hil',hg,hml,e0,e1,e2,d2,↓gd]
  repeat refine And.intro (by omega) ?_
  refine ((x0 _).as (by rfl)).to ?_
  simp -implicitDefEqProofs (maxSteps:=1000000) (disch:=omega) only [push_cast,simprocAttr,h0,h1,h5,hil',hg,hml,e0,e1,e2,d2,↓gd]
  repeat refine And.intro (by omega) ?_
  refine ((x1 _).as (by rfl)).to ?_
  simp -implicitDefEqProofs (maxSteps:=1000000) (disch:=omega) only [push_cast,simprocAttr,h0,h1,h5,hil',hg,hml,e0,e1,e2,d2,↓gd]
  repeat refine And.intro (by omega) ?_
  exact ⟨n - (i+1),by omega,i+1,K3,rfl,by omega,by omega,by simp,by simp⟩
 ·have:i=n:=by omega
  subst this
  have hil':¬((i:Nat):Int) < i:=by omega
  simp -implicitDefEqProofs (maxSteps:=1000000) (disch:=omega) only [push_cast,simprocAttr,h0,h1,h5,hil',hml,↓gd]
  exact fin0 (by rw [hK0]; rfl)
theorem heldFrameS_ok (n k:Nat) (hn:n≤2000000) (hk:k+4 * n≤90000000) (S:List Blk):VCall Tryz.prog 37 [.rows none ((mkFrs n k).map frV),.int .i64 k] S fun r S'=>r=.int .i64 ((k+4 * n:Nat):Int)∧S'=S:=by
 have hml:=mkFrs_len n k
 refine VCall.ex hD (fun _=>false) (fun id=>if id=13 then [8,8,8,8,8,6,8,8] else []) Tryz.func37 Tryz.ntmps37 Tryz.results37 ?_
 simp -implicitDefEqProofs (maxSteps:=1000000) (disch:=omega) only [push_cast,simprocAttr,↓gd]
 refine wpV_loop (fun m t S'=>∃i K:Nat,m=n - i∧i≤n∧K=k+4 * i∧t 0=.rows none ((mkFrs n k).map frV)∧t 1=.int .i64 (K:Int)∧t 5=.int .i64 i∧S'=S) n ⟨0,k,by omega,by omega,by omega,rfl,rfl,rfl,rfl⟩ ?_
 rintro m t S' ⟨i,K0,rfl,hi,hK0,h0,h1,h5,rfl⟩
 refine wpV_of hD (fun _=>false) (fun id=>if id=13 then [8,8,8,8,8,6,8,8] else []) (by kernel_rfl) ?_
 by_cases hil:i < n
 ·have hil':(i:Int) < n:=by omega
  have hg:=getD_frV (l:=mkFrs n k) (i:=i) (by rw [hml]; exact hil)
  rw [show (mkFrs n k).getD i fr0=mkFr (k+4 * i) from mkFrs_get n k i hil,←hK0] at hg
  obtain ⟨K1,hK1⟩:∃n:Nat,n=K0+1:=⟨_,rfl⟩
  obtain ⟨K2,hK2⟩:∃n:Nat,n=K1+1:=⟨_,rfl⟩
  obtain ⟨K3,hK3⟩:∃n:Nat,n=K2+1:=⟨_,rfl⟩
  obtain ⟨K4,hK4⟩:∃n:Nat,n=K3+1:=⟨_,rfl⟩
  have hg:((mkFrs n k).map frV).getD i .junk=V.agg [V.int .i64 (K0:Int),V.bool (decide (K1 % 3=0)),V.int .i64 (K2:Int),V.str (mtext K3)]:=by
   rw [hg]
   subst hK3 hK2 hK1
   rfl
  have e0:(K0:Int)+1=(K1:Int):=by omega
  have e1:(K1:Int)+1=(K2:Int):=by omega
  have d1:=dec3 K1
  generalize hb1:decide (K1 % 3=0)=bb1 at *
  have e2:(K2:Int)+1=(K3:Int):=by omega
  have e3:(K3:Int)+1=(K4:Int):=by omega
  have x3:=fun T=>markText_ok K3 (by omega) T
  generalize hm3:mtext K3=m3 at *
  simp -implicitDefEqProofs (maxSteps:=1000000) (disch:=omega) only [push_cast,simprocAttr,h0,h1,h5,hil',hg,hml,e0,e1,d1,e2,e3,↓gd]
  repeat refine And.intro (by omega) ?_
  refine ((x3 _).as (by rfl)).to ?_
  simp -implicitDefEqProofs (maxSteps:=1000000) (disch:=omega) only [push_cast,simprocAttr,h0,h1,h5,hil',hg,hml,e0,e1,d1,e2,e3,↓gd]
  repeat refine And.intro (by omega) ?_
  exact ⟨n - (i+1),by omega,i+1,K4,rfl,by omega,by omega,by simp,by simp⟩
 ·have:i=n:=by omega
  subst this
  have hil':¬((i:Nat):Int) < i:=by omega
  simp -implicitDefEqProofs (maxSteps:=1000000) (disch:=omega) only [push_cast,simprocAttr,h0,h1,h5,hil',hml,↓gd]
  exact fin0 (by rw [hK0]; rfl)
theorem heldStreamS_ok (l:List St) (k:Nat) (hn:l.length≤2000000) (hB:∀s ∈ l,s.head.length≤2000000∧s.got.length≤2000000) (hk:k+cntSs l≤90000000) (S:List Blk):VCall Tryz.prog 36 [.rows none ((mkSs l k).map stV),.int .i64 k] S fun r S'=>r=.int .i64 ((k+cntSs l:Nat):Int)∧S'=S:=by
 have hml:=mkSs_len l k
 refine VCall.ex hD (fun _=>false) (fun id=>if id=13 then [8,8,8,8,8,6,8,8] else if id=28 then [8,8,8,8,8,6,8,8] else []) Tryz.func36 Tryz.ntmps36 Tryz.results36 ?_
 simp -implicitDefEqProofs (maxSteps:=1000000) (disch:=omega) only [push_cast,simprocAttr,↓gd]
 refine wpV_loop (fun m t S'=>∃i K:Nat,m=l.length - i∧i≤l.length∧K=k+cntSs (l.take i)∧t 0=.rows none ((mkSs l k).map stV)∧t 1=.int .i64 (K:Int)∧t 5=.int .i64 i∧S'=S) l.length ⟨0,k,by omega,by omega,by simp [cntSs],rfl,rfl,rfl,rfl⟩ ?_
 rintro m t S' ⟨i,K0,rfl,hi,hK0,h0,h1,h5,rfl⟩
 refine wpV_of hD (fun _=>false) (fun id=>if id=13 then [8,8,8,8,8,6,8,8] else if id=28 then [8,8,8,8,8,6,8,8] else []) (by kernel_rfl) ?_
 by_cases hil:i < l.length
 ·have hil':(i:Int) < l.length:=by omega
  have hg:=getD_stV (l:=mkSs l k) (i:=i) (by rw [hml]; exact hil)
  rw [mkSs_get l k i hil,←hK0] at hg
  have hcn:=cntSs_snoc hil
  have hcp:cntSs (l.take (i+1))≤cntSs l:=by
   have:=cntSs_app (l.take (i+1)) (l.drop (i+1))
   rw [List.take_append_drop] at this
   omega
  obtain ⟨hB1,hB2⟩:=hB _ (mem_getD st0 hil)
  generalize l.getD i st0=s at *
  have hcs:cntS s=10+3 * s.head.length+3 * s.got.length:=rfl
  obtain ⟨K1,hK1⟩:∃n:Nat,n=K0+1:=⟨_,rfl⟩
  obtain ⟨K2,hK2⟩:∃n:Nat,n=K1+1:=⟨_,rfl⟩
  obtain ⟨K3,hK3⟩:∃n:Nat,n=K2+3 * s.head.length:=⟨_,rfl⟩
  obtain ⟨K4,hK4⟩:∃n:Nat,n=K3+1:=⟨_,rfl⟩
  obtain ⟨K5,hK5⟩:∃n:Nat,n=K4+1:=⟨_,rfl⟩
  obtain ⟨K6,hK6⟩:∃n:Nat,n=K5+1:=⟨_,rfl⟩
  obtain ⟨K7,hK7⟩:∃n:Nat,n=K6+1:=⟨_,rfl⟩
  obtain ⟨K8,hK8⟩:∃n:Nat,n=K7+3 * s.got.length:=⟨_,rfl⟩
  obtain ⟨K9,hK9⟩:∃n:Nat,n=K8+1:=⟨_,rfl⟩
  obtain ⟨K10,hK10⟩:∃n:Nat,n=K9+1:=⟨_,rfl⟩
  obtain ⟨K11,hK11⟩:∃n:Nat,n=K10+1:=⟨_,rfl⟩
  obtain ⟨K12,hK12⟩:∃n:Nat,n=K11+1:=⟨_,rfl⟩
  have r1:K0+1=K1:=by omega
  have r2:K0+2=K2:=by omega
  have r3:K0+2+3 * s.head.length=K3:=by omega
  have r4:K0+3+3 * s.head.length=K4:=by omega
  have r5:K0+4+3 * s.head.length=K5:=by omega
  have r6:K0+5+3 * s.head.length=K6:=by omega
  have r7:K0+6+3 * s.head.length=K7:=by omega
  have r8:K0+6+3 * s.head.length+3 * s.got.length=K8:=by omega
  have r9:K0+7+3 * s.head.length+3 * s.got.length=K9:=by omega
  have r10:K0+8+3 * s.head.length+3 * s.got.length=K10:=by omega
  have r11:K0+9+3 * s.head.length+3 * s.got.length=K11:=by omega
  have hg:((mkSs l k).map stV).getD i .junk=V.agg [V.int .i64 (K0:Int),V.int .i64 (K1:Int),V.rows none ((mkFs s.head.length K2).map fV),V.str (mtext K3),V.bool (decide (K4 % 3=0)),V.bool (decide (K5 % 3=0)),V.int .i64 (K6:Int),V.rows none ((mkFs s.got.length K7).map fV),V.str (mtext K8),V.bool (decide (K9 % 3=0)),V.int .i64 (K10:Int),V.int .i64 (K11:Int)]:=by
   rw [hg]
   simp only [stV_eq,mkS,r1,r2,r3,r4,r5,r6,r7,r8,r9,r10,r11,hK3.symm,hK8.symm]
  have f2:=fun T=>heldFieldS_ok s.head.length K2 hB1 (by omega) T
  have f7:=fun T=>heldFieldS_ok s.got.length K7 hB2 (by omega) T
  rw [←hK3] at f2
  rw [←hK8] at f7
  have e0:(K0:Int)+1=(K1:Int):=by omega
  have e1:(K1:Int)+1=(K2:Int):=by omega
  have e3:(K3:Int)+1=(K4:Int):=by omega
  have x3:=fun T=>markText_ok K3 (by omega) T
  generalize hm3:mtext K3=m3 at *
  have e4:(K4:Int)+1=(K5:Int):=by omega
  have d4:=dec3 K4
  generalize hb4:decide (K4 % 3=0)=bb4 at *
  have e5:(K5:Int)+1=(K6:Int):=by omega
  have d5:=dec3 K5
  generalize hb5:decide (K5 % 3=0)=bb5 at *
  have e6:(K6:Int)+1=(K7:Int):=by omega
  have e8:(K8:Int)+1=(K9:Int):=by omega
  have x8:=fun T=>markText_ok K8 (by omega) T
  generalize hm8:mtext K8=m8 at *
  have e9:(K9:Int)+1=(K10:Int):=by omega
  have d9:=dec3 K9
  generalize hb9:decide (K9 % 3=0)=bb9 at *
  have e10:(K10:Int)+1=(K11:Int):=by omega
  have e11:(K11:Int)+1=(K12:Int):=by omega
  have p3:¬(K3:Int) < 0:=by omega
  have p8:¬(K8:Int) < 0:=by omega
  simp -implicitDefEqProofs (maxSteps:=1000000) (disch:=omega) only [push_cast,simprocAttr,h0,h1,h5,hil',hg,hml,p3,p8,e0,e1,e3,e4,d4,e5,d5,e6,e8,e9,d9,e10,e11,↓gd]
  repeat refine And.intro (by omega) ?_
  refine ((f2 _).as (by rfl)).to ?_
  simp -implicitDefEqProofs (maxSteps:=1000000) (disch:=omega) only [push_cast,simprocAttr,h0,h1,h5,hil',hg,hml,p3,p8,e0,e1,e3,e4,d4,e5,d5,e6,e8,e9,d9,e10,e11,↓gd]
  repeat refine And.intro (by omega) ?_
  refine ((x3 _).as (by rfl)).to ?_
  simp -implicitDefEqProofs (maxSteps:=1000000) (disch:=omega) only [push_cast,simprocAttr,h0,h1,h5,hil',hg,hml,p3,p8,e0,e1,e3,e4,d4,e5,d5,e6,e8,e9,d9,e10,e11,↓gd]
  repeat refine And.intro (by omega) ?_
  refine ((f7 _).as (by rfl)).to ?_
  simp -implicitDefEqProofs (maxSteps:=1000000) (disch:=omega) only [push_cast,simprocAttr,h0,h1,h5,hil',hg,hml,p3,p8,e0,e1,e3,e4,d4,e5,d5,e6,e8,e9,d9,e10,e11,↓gd]
  repeat refine And.intro (by omega) ?_
  refine ((x8 _).as (by rfl)).to ?_
  simp -implicitDefEqProofs (maxSteps:=1000000) (disch:=omega) only [push_cast,simprocAttr,h0,h1,h5,hil',hg,hml,p3,p8,e0,e1,e3,e4,d4,e5,d5,e6,e8,e9,d9,e10,e11,↓gd]
  repeat refine And.intro (by omega) ?_
  exact ⟨l.length - (i+1),by omega,i+1,K12,rfl,by omega,by omega,by simp,by simp⟩
 ·have:i=l.length:=by omega
  subst this
  have hil':¬((l.length:Nat):Int) < l.length:=by omega
  rw [List.take_length] at hK0
  simp -implicitDefEqProofs (maxSteps:=1000000) (disch:=omega) only [push_cast,simprocAttr,h0,h1,h5,hil',hml,↓gd]
  exact fin0 (by rw [hK0]; rfl)
theorem heldTable_ok (n:Nat) (max:Int) (k:Nat) (hn:n≤2000000) (hk:k+3 * n≤90000000) (S:List Blk):VCall Tryz.prog 35 [tV (mkFs n k) max,.int .i64 k] S fun r S'=>r=.int .i64 ((k+3 * n:Nat):Int)∧S'=S:=by
 have hh:=fun T=>heldFieldS_ok n k hn hk T
 generalize k+3 * n=K at *
 refine VCall.en hD Tryz.func35 Tryz.ntmps35 Tryz.results35 ?_
 simp -implicitDefEqProofs (maxSteps:=1000000) (disch:=omega) only [push_cast,simprocAttr,↓gd]
 refine ((hh _).as (by rfl)).to ?_
 have hK:¬(K:Int) < 0:=by omega
 simp -implicitDefEqProofs (maxSteps:=1000000) (disch:=omega) only [push_cast,simprocAttr,hK,↓gd]
 exact fin1 (.int _ _) rfl
theorem heldEnd_ok (e:En) (hB:EnB e) (k:Nat) (hk:k+cntE e≤90000000) (S:List Blk):VCall Tryz.prog 10 [erV (markE e k),.int .i64 k] S fun r S'=>r=.int .i64 ((k+cntE e:Nat):Int)∧S'=S:=by
 have hel:=hB.len
 have hwl:=hB.wait
 have hol:=hB.out.1
 have hnl:=hB.inn.1
 have hce:cntE e=3 * e.out.length+3 * e.inn.length+cntSs e.strs+4 * e.wait.length:=rfl
 obtain ⟨K1,hK1⟩:∃n,k+3 * e.out.length=n:=⟨_,rfl⟩
 obtain ⟨K2,hK2⟩:∃n,K1+3 * e.inn.length=n:=⟨_,rfl⟩
 obtain ⟨K3,hK3⟩:∃n,K2+cntSs e.strs=n:=⟨_,rfl⟩
 obtain ⟨K4,hK4⟩:∃n,K3+4 * e.wait.length=n:=⟨_,rfl⟩
 have m1:=fun T=>heldTable_ok e.out.length e.outM k hol (by omega) T
 have m2:=fun T=>heldTable_ok e.inn.length e.innM K1 hnl (by omega) T
 have m3:=fun T=>heldStreamS_ok e.strs K2 (by omega) (fun s hs=>⟨(hB.sts s hs).head.1,(hB.sts s hs).got.1⟩) (by omega) T
 have m4:=fun T=>heldFrameS_ok e.wait.length K3 (by omega) (by omega) T
 rw [hK1] at m1
 rw [hK2] at m2
 rw [hK3] at m3
 rw [hK4] at m4
 have hmk:markE e k={ e with out:=mkFs e.out.length k,inn:=mkFs e.inn.length K1,strs:=mkSs e.strs K2,wait:=mkFrs e.wait.length K3 }:=by
  simp only [markE,hK1,hK2,hK3]
 rw [hmk]
 have p1:¬(K1:Int) < 0:=by omega
 have p2:¬(K2:Int) < 0:=by omega
 have p3:¬(K3:Int) < 0:=by omega
 have p4:¬(K4:Int) < 0:=by omega
 refine VCall.en hD Tryz.func10 Tryz.ntmps10 Tryz.results10 ?_
 simp -implicitDefEqProofs (maxSteps:=1000000) (disch:=omega) only [push_cast,simprocAttr,↓gd]
 refine ((m1 _).as (by rfl)).to ?_
 simp -implicitDefEqProofs (maxSteps:=1000000) (disch:=omega) only [push_cast,simprocAttr,p1,↓gd]
 refine ((m2 _).as (by rfl)).to ?_
 simp -implicitDefEqProofs (maxSteps:=1000000) (disch:=omega) only [push_cast,simprocAttr,p2,↓gd]
 refine ((m3 _).as (by rfl)).to ?_
 simp -implicitDefEqProofs (maxSteps:=1000000) (disch:=omega) only [push_cast,simprocAttr,p3,↓gd]
 refine ((m4 _).as (by rfl)).to ?_
 simp -implicitDefEqProofs (maxSteps:=1000000) (disch:=omega) only [push_cast,simprocAttr,p4,↓gd]
 exact fin1 (.int _ _) (by congr 1; omega)
end
section
open Go
theorem sEndWrite_ok {e:En} (he:EnB e) {S:List Blk} {b c:Nat} (h:EnAt S b c e):VCall Tryz.prog 5 [eV b c e] S fun r S' =>
  ∃v,r=.tup [v,.str (endWriteM e).2]∧RNew S (endWriteM e).1 v S':=by
 have hok:=fun X=>sEndOk_at he (h.app X)
 have hcp:=fun X=>l21Copy_ok he (h.app X)
 refine VCall.en hDe Tryz.func5 Tryz.ntmps5 Tryz.results5 ?_
 simp -implicitDefEqProofs (disch:=omega) only [push_cast,simprocAttr,↓gd]
 refine ((hok _).as (by simp [eV,enV,enC])).to ?_
 cases hE:endOk e
 ·rw [endWriteM,if_pos hE]
  simp -implicitDefEqProofs (disch:=omega) only [push_cast,simprocAttr,↓gd]
  exact RNew.zeroT (by simp [Plain])
 have hW:=endOk_w hE
 rw [endWriteM,if_neg (by rw [hE]; simp)]
 rcases Bool.eq_false_or_eq_true e.bad with hbd | hbd
 ·rw [if_pos hbd]
  simp -implicitDefEqProofs (disch:=omega) only [push_cast,simprocAttr,hbd,↓gd]
  refine ((hcp _).as (by simp [eV,enV,enC,hbd])).mono ?_
  rintro r S' ⟨b',c',rfl,hn⟩
  have k0:S'[S.length+1]?=some (.cells 0 zE):=hn.upd.get (by simp -implicitDefEqProofs (disch:=omega) only [push_cast,simprocAttr,↓gd]) (by simp)
  have l0:=lt_of_some k0
  have hbb:=hn.hb; have hcc:=hn.hc
  simp at hbb hcc
  simp -implicitDefEqProofs (disch:=omega) only [push_cast,simprocAttr,k0,↓gd]
  refine ⟨_,_,Wk.refl _ _ _,_,rfl,b',c',?_,hn.app.set (j:=S.length+1) _ (by omega) (by omega) (by omega)⟩
  simp [eV,enV,enC,hbd]
 ·rw [if_neg (by rw [hbd]; simp)]
  simp -implicitDefEqProofs (disch:=omega) only [push_cast,simprocAttr,hbd,↓gd]
  refine ((hcp _).as (by simp [eV,enV,enC,hbd])).mono ?_
  rintro r S' ⟨b',c',rfl,hn⟩
  have k0:S'[S.length+1]?=some (.cells 0 zE):=hn.upd.get (by simp -implicitDefEqProofs (disch:=omega) only [push_cast,simprocAttr,↓gd]) (by simp)
  have l0:=lt_of_some k0
  have hbb:=hn.hb; have hcc:=hn.hc
  simp at hbb hcc
  simp -implicitDefEqProofs (disch:=omega) only [push_cast,simprocAttr,↓gd]
  refine ((l21Write_ok hW (by decide) hn.at_).as (by simp [eV,enV,enC,hbd])).mono ?_
  rintro r S2 ⟨v,rfl,b2,c2,rfl,hto⟩
  have k0':=hto.upd.get k0 (by simp; omega)
  have l0':=lt_of_some k0'
  have hn2:=(hn.to hto).app
  generalize writeM e=y at *
  obtain ⟨y,o⟩:=y
  simp -implicitDefEqProofs (disch:=omega) only [push_cast,simprocAttr,k0',↓gd]
  exact ⟨_,_,Wk.refl _ _ _,_,rfl,b2,c2,rfl,hn2.set (j:=S.length+1) _ (by omega) (cells_ne hto.at_.1 k0' (by decide)) (cells_ne hto.at_.2 k0' (by decide))⟩
end
end Go.Proofs.YtldogccmhncnoaaGreat
