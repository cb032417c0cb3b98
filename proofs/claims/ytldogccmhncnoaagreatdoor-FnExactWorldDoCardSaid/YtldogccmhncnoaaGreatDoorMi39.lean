/- A part of the proof: contracts of functions, or plain facts on which these lean. -/
import Derived.Test.YtldogccmhncnoaaGreatDoorMi18
import Derived.Test.YtldogccmhncnoaaGreatDoorMi20
import Derived.Test.YtldogccmhncnoaaGreatDoorMi26
import Derived.Test.YtldogccmhncnoaaGreatDoorMi36
import Derived.Test.YtldogccmhncnoaaGreatDoorMi38
namespace Go.Proofs.YtldogccmhncnoaaGreatDoor
open Go
set_option linter.unusedVariables false
set_option linter.unusedSimpArgs false
set_option maxRecDepth 100000
set_option maxHeartbeats 16000000

section
open Go
theorem mkFrs_get:∀n k i,i < n→(mkFrs n k).getD i fr0=mkFr (k+4 * i)
 | 0,_,_,h=>by omega
 | n+1,k,0,_=>rfl
 | n+1,k,i+1,h=>by
  rw [mkFrs,List.getD_cons_succ,mkFrs_get n (k+4) i (by omega),show k+4+4 * i=k+4 * (i+1) from by omega]
theorem mkSs_get:∀(l:List St) (k i:Nat),i < l.length→(mkSs l k).getD i st0=mkS (l.getD i st0) (k+cntSs (l.take i))
 | [],_,_,h=>by simp at h
 | s :: l,k,0,_=>rfl
 | s :: l,k,i+1,h=>by
  rw [mkSs,List.getD_cons_succ,List.getD_cons_succ,mkSs_get l (k+cntS s) i (by simpa using h),List.take_succ_cons,cntSs,Nat.add_assoc]
theorem cntSs_snoc {l:List St} {i:Nat} (h:i < l.length):cntSs (l.take (i+1))=cntSs (l.take i)+cntS (l.getD i st0):=by
 rw [take_st h,cntSs_app]
 simp [cntSs]
theorem heldFieldS_ok (n k:Nat) (hn:n≤2000000) (hk:k+3 * n≤90000000) (S:List Blk):VCall Tryz.prog 99 [.rows none ((mkFs n k).map fV),.int .i64 k] S fun r S'=>r=.int .i64 ((k+3 * n:Nat):Int)∧S'=S:=by
 have hml:=mkFs_len n k
 refine VCall.ex hD (fun _=>false) (fun id=>if id=4 then [8,8,8,8,8,6,8,8] else if id=7 then [8,8,8,8,8,6,8,8] else []) Tryz.func99 Tryz.ntmps99 Tryz.results99 ?_
 simp -implicitDefEqProofs (maxSteps:=1000000) (disch:=omega) only [push_cast,simprocAttr,↓gd]
 refine wpV_loop (fun m t S'=>∃i K:Nat,m=n - i∧i≤n∧K=k+3 * i∧t 0=.rows none ((mkFs n k).map fV)∧t 1=.int .i64 (K:Int)∧t 5=.int .i64 i∧S'=S) n ⟨0,k,by omega,by omega,by omega,rfl,rfl,rfl,rfl⟩ ?_
 rintro m t S' ⟨i,K0,rfl,hi,hK0,h0,h1,h5,rfl⟩
 refine wpV_of hD (fun _=>false) (fun id=>if id=4 then [8,8,8,8,8,6,8,8] else if id=7 then [8,8,8,8,8,6,8,8] else []) (by kernel_rfl) ?_
 by_cases hil:i < n
 ·have hil':(i:Int) < n:=by omega
  have hg:=getD_fV (l:=mkFs n k) (i:=i) (by rw [hml]; exact hil)
  rw [show (mkFs n k).getD i fd0=mkF (k+3 * i) from mkFs_get n k i hil,←hK0] at hg
  obtain ⟨K1,hK1⟩:∃n:Nat,n=K0+1:=⟨_,rfl⟩
  obtain ⟨K2,hK2⟩:∃n:Nat,n=K1+1:=⟨_,rfl⟩
  obtain ⟨K3,hK3⟩:∃n:Nat,n=K2+1:=⟨_,rfl⟩
  have hg:((mkFs n k).map fV).getD i .junk=V.agg [V.str (mtext K0),V.str (mtext K1),V.bool (decide (K2 % 3=0))]:=by
   rw [hg]
   subst hK2 hK1
   rfl
  have e0:(K0:Int)+1=(K1:Int):=by omega
  have x0:=fun T=>markText_ok K0 (by omega) T
  generalize hm0:mtext K0=m0 at *
  have e1:(K1:Int)+1=(K2:Int):=by omega
  have x1:=fun T=>markText_ok K1 (by omega) T
  generalize hm1:mtext K1=m1 at *
  have e2:(K2:Int)+1=(K3:Int):=by omega
  have d2:=dec3 K2
  generalize hb2:decide (K2 % 3=0)=bb2 at *
  simp -implicitDefEqProofs (maxSteps:=1000000) (disch:=omega) only [push_cast,simprocAttr,h0,h1,h5,hil',hg,hml,e0,e1,e2,d2,↓gd]
  repeat refine And.intro (by omega) ?_
  refine ((x0 _).as (by rfl)).to ?_
  simp -implicitDefEqProofs (maxSteps:=1000000) (disch:=omega) only [push_cast,simprocAttr,h0,h1,h5,hil',hg,hml,e0,e1,e2,d2,↓gd]
  repeat refine And.intro (by omega) ?_
  refine ((x1 _).as (by rfl)).to ?_
  simp -implicitDefEqProofs (maxSteps:=1000000) (disch:=omega) only [push_cast,simprocAttr,h0,h1,h5,hil',hg,hml,e0,e1,e2,d2,↓gd]
  repeat refine And.intro (by omega) ?_
  exact ⟨n - (i+1),by omega,i+1,K3,rfl,by omega,by omega,by simp,by simp⟩
 ·have:i=n:=by omega
  subst this
  have hil':¬((i:Nat):Int) < i:=by omega
  simp -implicitDefEqProofs (maxSteps:=1000000) (disch:=omega) only [push_cast,simprocAttr,h0,h1,h5,hil',hml,↓gd]
  exact fin0 (by rw [hK0]; rfl)
theorem heldFrameS_ok (n k:Nat) (hn:n≤2000000) (hk:k+4 * n≤90000000) (S:List Blk):VCall Tryz.prog 54 [.rows none ((mkFrs n k).map frV),.int .i64 k] S fun r S'=>r=.int .i64 ((k+4 * n:Nat):Int)∧S'=S:=by
 have hml:=mkFrs_len n k
 refine VCall.ex hD (fun _=>false) (fun id=>if id=13 then [8,8,8,8,8,6,8,8] else []) Tryz.func54 Tryz.ntmps54 Tryz.results54 ?_
 simp -implicitDefEqProofs (maxSteps:=1000000) (disch:=omega) only [push_cast,simprocAttr,↓gd]
 refine wpV_loop (fun m t S'=>∃i K:Nat,m=n - i∧i≤n∧K=k+4 * i∧t 0=.rows none ((mkFrs n k).map frV)∧t 1=.int .i64 (K:Int)∧t 5=.int .i64 i∧S'=S) n ⟨0,k,by omega,by omega,by omega,rfl,rfl,rfl,rfl⟩ ?_
 rintro m t S' ⟨i,K0,rfl,hi,hK0,h0,h1,h5,rfl⟩
 refine wpV_of hD (fun _=>false) (fun id=>if id=13 then [8,8,8,8,8,6,8,8] else []) (by kernel_rfl) ?_
 by_cases hil:i < n
 ·have hil':(i:Int) < n:=by omega
  have hg:=getD_frV (l:=mkFrs n k) (i:=i) (by rw [hml]; exact hil)
  rw [show (mkFrs n k).getD i fr0=mkFr (k+4 * i) from mkFrs_get n k i hil,←hK0] at hg
  obtain ⟨K1,hK1⟩:∃n:Nat,n=K0+1:=⟨_,rfl⟩
  obtain ⟨K2,hK2⟩:∃n:Nat,n=K1+1:=⟨_,rfl⟩
  obtain ⟨K3,hK3⟩:∃n:Nat,n=K2+1:=⟨_,rfl⟩
  obtain ⟨K4,hK4⟩:∃n:Nat,n=K3+1:=⟨_,rfl⟩
  have hg:((mkFrs n k).map frV).getD i .junk=V.agg [V.int .i64 (K0:Int),V.bool (decide (K1 % 3=0)),V.int .i64 (K2:Int),V.str (mtext K3)]:=by
   rw [hg]
   subst hK3 hK2 hK1
   rfl
  have e0:(K0:Int)+1=(K1:Int):=by omega
  have e1:(K1:Int)+1=(K2:Int):=by omega
  have d1:=dec3 K1
  generalize hb1:decide (K1 % 3=0)=bb1 at *
  have e2:(K2:Int)+1=(K3:Int):=by omega
  have e3:(K3:Int)+1=(K4:Int):=by omega
  have x3:=fun T=>markText_ok K3 (by omega) T
  generalize hm3:mtext K3=m3 at *
  simp -implicitDefEqProofs (maxSteps:=1000000) (disch:=omega) only [push_cast,simprocAttr,h0,h1,h5,hil',hg,hml,e0,e1,d1,e2,e3,↓gd]
  repeat refine And.intro (by omega) ?_
  refine ((x3 _).as (by rfl)).to ?_
  simp -implicitDefEqProofs (maxSteps:=1000000) (disch:=omega) only [push_cast,simprocAttr,h0,h1,h5,hil',hg,hml,e0,e1,d1,e2,e3,↓gd]
  repeat refine And.intro (by omega) ?_
  exact ⟨n - (i+1),by omega,i+1,K4,rfl,by omega,by omega,by simp,by simp⟩
 ·have:i=n:=by omega
  subst this
  have hil':¬((i:Nat):Int) < i:=by omega
  simp -implicitDefEqProofs (maxSteps:=1000000) (disch:=omega) only [push_cast,simprocAttr,h0,h1,h5,hil',hml,↓gd]
  exact fin0 (by rw [hK0]; rfl)
theorem heldStreamS_ok (l:List St) (k:Nat) (hn:l.length≤2000000) (hB:∀s ∈ l,s.head.length≤2000000∧s.got.length≤2000000) (hk:k+cntSs l≤90000000) (S:List Blk):VCall Tryz.prog 53 [.rows none ((mkSs l k).map stV),.int .i64 k] S fun r S'=>r=.int .i64 ((k+cntSs l:Nat):Int)∧S'=S:=by
 have hml:=mkSs_len l k
 refine VCall.ex hD (fun _=>false) (fun id=>if id=13 then [8,8,8,8,8,6,8,8] else if id=28 then [8,8,8,8,8,6,8,8] else []) Tryz.func53 Tryz.ntmps53 Tryz.results53 ?_
 simp -implicitDefEqProofs (maxSteps:=1000000) (disch:=omega) only [push_cast,simprocAttr,↓gd]
 refine wpV_loop (fun m t S'=>∃i K:Nat,m=l.length - i∧i≤l.length∧K=k+cntSs (l.take i)∧t 0=.rows none ((mkSs l k).map stV)∧t 1=.int .i64 (K:Int)∧t 5=.int .i64 i∧S'=S) l.length ⟨0,k,by omega,by omega,by simp [cntSs],rfl,rfl,rfl,rfl⟩ ?_
 rintro m t S' ⟨i,K0,rfl,hi,hK0,h0,h1,h5,rfl⟩
 refine wpV_of hD (fun _=>false) (fun id=>if id=13 then [8,8,8,8,8,6,8,8] else if id=28 then [8,8,8,8,8,6,8,8] else []) (by kernel_rfl) ?_
 by_cases hil:i < l.length
 ·have hil':(i:Int) < l.length:=by omega
  have hg:=getD_stV (l:=mkSs l k) (i:=i) (by rw [hml]; exact hil)
  rw [mkSs_get l k i hil,←hK0] at hg
  have hcn:=cntSs_snoc hil
  have hcp:cntSs (l.take (i+1))≤cntSs l:=by
   have:=cntSs_app (l.take (i+1)) (l.drop (i+1))
   rw [List.take_append_drop] at this
   omega
  obtain ⟨hB1,hB2⟩:=hB _ (mem_getD st0 hil)
  generalize l.getD i st0=s at *
  have hcs:cntS s=10+3 * s.head.length+3 * s.got.length:=rfl
  obtain ⟨K1,hK1⟩:∃n:Nat,n=K0+1:=⟨_,rfl⟩
  obtain ⟨K2,hK2⟩:∃n:Nat,n=K1+1:=⟨_,rfl⟩
  obtain ⟨K3,hK3⟩:∃n:Nat,n=K2+3 * s.head.length:=⟨_,rfl⟩
  obtain ⟨K4,hK4⟩:∃n:Nat,n=K3+1:=⟨_,rfl⟩
  obtain ⟨K5,hK5⟩:∃n:Nat,n=K4+1:=⟨_,rfl⟩
  obtain ⟨K6,hK6⟩:∃n:Nat,n=K5+1:=⟨_,rfl⟩
  obtain ⟨K7,hK7⟩:∃n:Nat,n=K6+1:=⟨_,rfl⟩
  obtain ⟨K8,hK8⟩:∃n:Nat,n=K7+3 * s.got.length:=⟨_,rfl⟩
  obtain ⟨K9,hK9⟩:∃n:Nat,n=K8+1:=⟨_,rfl⟩
  obtain ⟨K10,hK10⟩:∃n:Nat,n=K9+1:=⟨_,rfl⟩
  obtain ⟨K11,hK11⟩:∃n:Nat,n=K10+1:=⟨_,rfl⟩
  obtain ⟨K12,hK12⟩:∃n:Nat,n=K11+1:=⟨_,rfl⟩
  have r1:K0+1=K1:=by omega
  have r2:K0+2=K2:=by omega
  have r3:K0+2+3 * s.head.length=K3:=by omega
  have r4:K0+3+3 * s.head.length=K4:=by omega
  have r5:K0+4+3 * s.head.length=K5:=by omega
  have r6:K0+5+3 * s.head.length=K6:=by omega
  have r7:K0+6+3 * s.head.length=K7:=by omega
  have r8:K0+6+3 * s.head.length+3 * s.got.length=K8:=by omega
  have r9:K0+7+3 * s.head.length+3 * s.got.length=K9:=by omega
  have r10:K0+8+3 * s.head.length+3 * s.got.length=K10:=by omega
  have r11:K0+9+3 * s.head.length+3 * s.got.length=K11:=by omega
  have hg:((mkSs l k).map stV).getD i .junk=V.agg [V.int .i64 (K0:Int),V.int .i64 (K1:Int),V.rows none ((mkFs s.head.length K2).map fV),V.str (mtext K3),V.bool (decide (K4 % 3=0)),V.bool (decide (K5 % 3=0)),V.int .i64 (K6:Int),V.rows none ((mkFs s.got.length K7).map fV),V.str (mtext K8),V.bool (decide (K9 % 3=0)),V.int .i64 (K10:Int),V.int .i64 (K11:Int)]:=by
   rw [hg]
   simp only [stV_eq,mkS,r1,r2,r3,r4,r5,r6,r7,r8,r9,r10,r11,hK3.symm,hK8.symm]
  have f2:=fun T=>heldFieldS_ok s.head.length K2 hB1 (by omega) T
  have f7:=fun T=>heldFieldS_ok s.got.length K7 hB2 (by omega) T
  rw [←hK3] at f2
  rw [←hK8] at f7
  have e0:(K0:Int)+1=(K1:Int):=by omega
  have e1:(K1:Int)+1=(K2:Int):=by omega
  have e3:(K3:Int)+1=(K4:Int):=by omega
  have x3:=fun T=>markText_ok K3 (by omega) T
  generalize hm3:mtext K3=m3 at *
  have e4:(K4:Int)+1=(K5:Int):=by omega
  have d4:=dec3 K4
  generalize hb4:decide (K4 % 3=0)=bb4 at *
  have e5:(K5:Int)+1=(K6:Int):=by omega
  have d5:=dec3 K5
  generalize hb5:decide (K5 % 3=0)=bb5 at *
  have e6:(K6:Int)+1=(K7:Int):=by omega
  have e8:(K8:Int)+1=(K9:Int):=by omega
  have x8:=fun T=>markText_ok K8 (by omega) T
  generalize hm8:mtext K8=m8 at *
  have e9:(K9:Int)+1=(K10:Int):=by omega
  have d9:=dec3 K9
  generalize hb9:decide (K9 % 3=0)=bb9 at *
  have e10:(K10:Int)+1=(K11:Int):=by omega
  have e11:(K11:Int)+1=(K12:Int):=by omega
  have p3:¬(K3:Int) < 0:=by omega
  have p8:¬(K8:Int) < 0:=by omega
  simp -implicitDefEqProofs (maxSteps:=1000000) (disch:=omega) only [push_cast,simprocAttr,h0,h1,h5,hil',hg,hml,p3,p8,e0,e1,e3,e4,d4,e5,d5,e6,e8,e9,d9,e10,e11,↓gd]
  repeat refine And.intro (by omega) ?_
  refine ((f2 _).as (by rfl)).to ?_
  simp -implicitDefEqProofs (maxSteps:=1000000) (disch:=omega) only [push_cast,simprocAttr,h0,h1,h5,hil',hg,hml,p3,p8,e0,e1,e3,e4,d4,e5,d5,e6,e8,e9,d9,e10,e11,↓gd]
  repeat refine And.intro (by omega) ?_
  refine ((x3 _).as (by rfl)).to ?_
  simp -implicitDefEqProofs (maxSteps:=1000000) (disch:=omega) only [push_cast,simprocAttr,h0,h1,h5,hil',hg,hml,p3,p8,e0,e1,e3,e4,d4,e5,d5,e6,e8,e9,d9,e10,e11,↓gd]
  repeat refine And.intro (by omega) ?_
  refine ((f7 _).as (by rfl)).to ?_
  simp -implicitDefEqProofs (maxSteps:=1000000) (disch:=omega) only [push_cast,simprocAttr,h0,h1,h5,hil',hg,hml,p3,p8,e0,e1,e3,e4,d4,e5,d5,e6,e8,e9,d9,e10,e11,↓gd]
  repeat refine And.intro (by omega) ?_
  refine ((x8 _).as (by rfl)).to ?_
  simp -implicitDefEqProofs (maxSteps:=1000000) (disch:=omega) only [push_cast,simprocAttr,h0,h1,h5,hil',hg,hml,p3,p8,e0,e1,e3,e4,d4,e5,d5,e6,e8,e9,d9,e10,e11,↓gd]
  repeat refine And.intro (by omega) ?_
  exact ⟨l.length - (i+1),by omega,i+1,K12,rfl,by omega,by omega,by simp,by simp⟩
 ·have:i=l.length:=by omega
  subst this
  have hil':¬((l.length:Nat):Int) < l.length:=by omega
  rw [List.take_length] at hK0
  simp -implicitDefEqProofs (maxSteps:=1000000) (disch:=omega) only [push_cast,simprocAttr,h0,h1,h5,hil',hml,↓gd]
  exact fin0 (by rw [hK0]; rfl)
theorem heldTable_ok (n:Nat) (max:Int) (k:Nat) (hn:n≤2000000) (hk:k+3 * n≤90000000) (S:List Blk):VCall Tryz.prog 52 [tV (mkFs n k) max,.int .i64 k] S fun r S'=>r=.int .i64 ((k+3 * n:Nat):Int)∧S'=S:=by
 have hh:=fun T=>heldFieldS_ok n k hn hk T
 generalize k+3 * n=K at *
 refine VCall.en hD Tryz.func52 Tryz.ntmps52 Tryz.results52 ?_
 simp -implicitDefEqProofs (maxSteps:=1000000) (disch:=omega) only [push_cast,simprocAttr,↓gd]
 refine ((hh _).as (by rfl)).to ?_
 have hK:¬(K:Int) < 0:=by omega
 simp -implicitDefEqProofs (maxSteps:=1000000) (disch:=omega) only [push_cast,simprocAttr,hK,↓gd]
 exact fin1 (.int _ _) rfl
theorem heldEnd_ok (e:En) (hB:EnB e) (k:Nat) (hk:k+cntE e≤90000000) (S:List Blk):VCall Tryz.prog 13 [erV (markE e k),.int .i64 k] S fun r S'=>r=.int .i64 ((k+cntE e:Nat):Int)∧S'=S:=by
 have hel:=hB.len
 have hwl:=hB.wait
 have hol:=hB.out.1
 have hnl:=hB.inn.1
 have hce:cntE e=3 * e.out.length+3 * e.inn.length+cntSs e.strs+4 * e.wait.length:=rfl
 obtain ⟨K1,hK1⟩:∃n,k+3 * e.out.length=n:=⟨_,rfl⟩
 obtain ⟨K2,hK2⟩:∃n,K1+3 * e.inn.length=n:=⟨_,rfl⟩
 obtain ⟨K3,hK3⟩:∃n,K2+cntSs e.strs=n:=⟨_,rfl⟩
 obtain ⟨K4,hK4⟩:∃n,K3+4 * e.wait.length=n:=⟨_,rfl⟩
 have m1:=fun T=>heldTable_ok e.out.length e.outM k hol (by omega) T
 have m2:=fun T=>heldTable_ok e.inn.length e.innM K1 hnl (by omega) T
 have m3:=fun T=>heldStreamS_ok e.strs K2 (by omega) (fun s hs=>⟨(hB.sts s hs).head.1,(hB.sts s hs).got.1⟩) (by omega) T
 have m4:=fun T=>heldFrameS_ok e.wait.length K3 (by omega) (by omega) T
 rw [hK1] at m1
 rw [hK2] at m2
 rw [hK3] at m3
 rw [hK4] at m4
 have hmk:markE e k={ e with out:=mkFs e.out.length k,inn:=mkFs e.inn.length K1,strs:=mkSs e.strs K2,wait:=mkFrs e.wait.length K3 }:=by
  simp only [markE,hK1,hK2,hK3]
 rw [hmk]
 have p1:¬(K1:Int) < 0:=by omega
 have p2:¬(K2:Int) < 0:=by omega
 have p3:¬(K3:Int) < 0:=by omega
 have p4:¬(K4:Int) < 0:=by omega
 refine VCall.en hD Tryz.func13 Tryz.ntmps13 Tryz.results13 ?_
 simp -implicitDefEqProofs (maxSteps:=1000000) (disch:=omega) only [push_cast,simprocAttr,↓gd]
 refine ((m1 _).as (by rfl)).to ?_
 simp -implicitDefEqProofs (maxSteps:=1000000) (disch:=omega) only [push_cast,simprocAttr,p1,↓gd]
 refine ((m2 _).as (by rfl)).to ?_
 simp -implicitDefEqProofs (maxSteps:=1000000) (disch:=omega) only [push_cast,simprocAttr,p2,↓gd]
 refine ((m3 _).as (by rfl)).to ?_
 simp -implicitDefEqProofs (maxSteps:=1000000) (disch:=omega) only [push_cast,simprocAttr,p3,↓gd]
 refine ((m4 _).as (by rfl)).to ?_
 simp -implicitDefEqProofs (maxSteps:=1000000) (disch:=omega) only [push_cast,simprocAttr,p4,↓gd]
 exact fin1 (.int _ _) (by congr 1; omega)
theorem heldWorld_ok (w:Wo) (hB:WoB w) (k:Nat) (hk:k+cntW w≤90000000) (S:List Blk):VCall Tryz.prog 22 [worV (markW w k),.int .i64 k] S fun r S'=>r=.int .i64 ((k+cntW w:Nat):Int)∧S'=S:=by
 have hcw:cntW w=cntE w.caller+cntE w.answerer:=rfl
 obtain ⟨K1,hK1⟩:∃n,k+cntE w.caller=n:=⟨_,rfl⟩
 obtain ⟨K2,hK2⟩:∃n,K1+cntE w.answerer=n:=⟨_,rfl⟩
 have m1:=fun T=>heldEnd_ok w.caller hB.caller k (by omega) T
 have m2:=fun T=>heldEnd_ok w.answerer hB.answerer K1 (by omega) T
 rw [hK1] at m1
 rw [hK2] at m2
 have hmk:markW w k={ w with caller:=markE w.caller k,answerer:=markE w.answerer K1 }:=by rw [←hK1]; rfl
 rw [hmk]
 generalize markE w.caller k=c at *
 generalize markE w.answerer K1=a at *
 have p1:¬(K1:Int) < 0:=by omega
 have p2:¬(K2:Int) < 0:=by omega
 refine VCall.en hD Tryz.func22 Tryz.ntmps22 Tryz.results22 ?_
 simp -implicitDefEqProofs (maxSteps:=1000000) (disch:=omega) only [push_cast,simprocAttr,↓gd]
 refine ((m1 _).as (by rfl)).to ?_
 simp -implicitDefEqProofs (maxSteps:=1000000) (disch:=omega) only [push_cast,simprocAttr,p1,↓gd]
 refine ((m2 _).as (by rfl)).to ?_
 simp -implicitDefEqProofs (maxSteps:=1000000) (disch:=omega) only [push_cast,simprocAttr,p2,↓gd]
 exact fin1 (.int _ _) (by congr 1; omega)
end
section
def more0:List Fr→Nat
 | []=>0
 | f :: l=>(if f.kind=8∧f.stream=0 then byteAt f.body 0 else 0)+more0 l
theorem more0_app:∀l k:List Fr,more0 (l++k)=more0 l+more0 k
 | [],k=>by simp [more0]
 | f :: l,k=>by simp only [List.cons_append,more0,more0_app l k]; omega
def gone:List St→Nat
 | []=>0
 | s :: l=>(if s.state=3 then 1 else 0)+gone l
theorem gone_app:∀l k:List St,gone (l++k)=gone l+gone k
 | [],k=>by simp [gone]
 | f :: l,k=>by simp only [List.cons_append,gone,gone_app l k]; omega
theorem gone_set:∀(l:List St) (k:Nat) (s:St),((l.getD k st0).state=3→s.state=3)→gone l≤gone (l.set k s)
 | [],k,s,_=>by simp
 | a :: l,0,s,hs=>by
  have h:a.state=3→s.state=3:=hs
  simp only [List.set_cons_zero,gone]
  by_cases q:a.state=3
  ·rw [if_pos q,if_pos (h q)]; exact Nat.le_refl _
  ·rw [if_neg q]; split <;> omega
 | a :: l,k+1,s,hs=>by
  have:=gone_set l k s (by simpa using hs)
  simp only [List.set_cons_succ,gone]; omega
theorem gone_more:∀(l:List St) (k:Nat) (s:St),k < l.length→(l.getD k st0).state≠3→s.state=3→gone (l.set k s)=gone l+1
 | [],k,s,h,_,_=>by simp at h
 | a :: l,0,s,_,hs,h3=>by
  have h:a.state≠3:=hs
  simp only [List.set_cons_zero,gone,if_neg h,if_pos h3]; omega
 | a :: l,k+1,s,h,hs,h3=>by
  have:=gone_more l k s (by simpa using h) (by simpa using hs) h3
  simp only [List.set_cons_succ,gone]; omega
structure Loc (e:En):Prop where
 sum:e.room+more0 e.wait=16
 len:e.wait.length≤2 * more0 e.wait+gone e.strs
 four:e.strs.length≤4
theorem loc_new (a:Bool):Loc (newEn a):=⟨rfl,by simp [newEn],by simp [newEn]⟩
theorem callM_loc {e:En} (h:Loc e) (p t:List UInt8):Loc (callM e p t).1:=by
 unfold callM
 split
 ·exact h
 ·rename_i hc
  have h2:¬2 * (e.strs.length:Int)+1 > 7:=fun q=>hc (.inr (.inl q))
  refine ⟨h.sum,?_,by simp; omega⟩
  have:=h.len
  simp only [gone_app]; omega
theorem leaveM_loc {e:En} (h:Loc e) (id:Int):Loc (leaveM e id).1:=by
 unfold leaveM
 split
 ·exact h
 ·rename_i k hk
  obtain ⟨h1,h2⟩:=atM_some hk
  split
  ·exact h
  ·rename_i hc
   have hs:(stAt e k).state=1:=by simpa using fun q=>hc (.inr q)
   have hg:=gone_more e.strs k { stAt e k with state:=3 } h1 (by show (stAt e k).state≠3; rw [hs]; decide) rfl
   have:=h.len
   have:=h.sum
   refine ⟨?_,?_,by simpa [setSt] using h.four⟩
   ·show e.room+more0 (if _ then _ else _)=16
    split
    ·rw [more0_app]; simpa [more0] using h.sum
    ·exact h.sum
   ·show (if _ then _ else _:List Fr).length≤2 * more0 (if _ then _ else _)+gone (e.strs.set k _)
    rw [hg]
    split
    ·rw [more0_app]; simp [more0]; omega
    ·omega
theorem beginM_keeps (e:En) (s:St):(beginM e s).1.room=e.room∧(beginM e s).1.wait=e.wait∧(beginM e s).1.strs=e.strs∧(beginM e s).2.1.state=s.state:=by unfold beginM; split <;> exact ⟨rfl,rfl,rfl,rfl⟩
theorem pieceM_keeps (e:En) (s:St):(pieceM e s).1.room=e.room∧(pieceM e s).1.wait=e.wait∧(pieceM e s).1.strs=e.strs∧(pieceM e s).2.1.state=s.state:=by unfold pieceM; split <;> exact ⟨rfl,rfl,rfl,rfl⟩
theorem sayM_room (e:En) (k:Nat):(sayM e k).1.room=e.room∧(sayM e k).1.wait=e.wait∧(sayM e k).1.strs.length=e.strs.length∧gone e.strs≤gone (sayM e k).1.strs:=by
 unfold sayM
 simp only
 split
 ·exact ⟨rfl,rfl,rfl,Nat.le_refl _⟩
 ·rename_i hc
  have hs:(stAt e k).state=1:=by simpa using fun q=>hc (.inl q)
  obtain ⟨b1,b2,b3,b4⟩:=beginM_keeps e (stAt e k)
  obtain ⟨c1,c2,c3,c4⟩:=pieceM_keeps (beginM e (stAt e k)).1 (beginM e (stAt e k)).2.1
  refine ⟨c1.trans b1,c2.trans b2,by simp [setSt,c3,b3],?_⟩
  simp only [setSt,c3,b3]
  refine gone_set _ _ _ (fun q=>?_)
  exact absurd (hs.symm.trans q) (by decide)
theorem saysM_room:∀(n k:Nat) (e:En),(saysM n k e).1.room=e.room∧(saysM n k e).1.wait=e.wait∧(saysM n k e).1.strs.length=e.strs.length∧gone e.strs≤gone (saysM n k e).1.strs
 | 0,k,e=>⟨rfl,rfl,rfl,Nat.le_refl _⟩
 | n+1,k,e=>by
  obtain ⟨a1,a2,a3,a4⟩:=sayM_room e k
  obtain ⟨b1,b2,b3,b4⟩:=saysM_room n (k+1) (sayM e k).1
  exact ⟨b1.trans a1,b2.trans a2,b3.trans a3,Nat.le_trans a4 b4⟩
theorem roomM_room (e:En) (f:Fr) (h:e.room+more0 [f]≤31):(roomM e f).room=e.room+more0 [f]∧(roomM e f).strs.length=e.strs.length∧gone e.strs≤gone (roomM e f).strs:=by
 unfold roomM
 split
 ·rename_i h8
  refine ⟨?_,rfl,Nat.le_refl _⟩
  simp [more0,h8]
 ·rename_i h8
  have h8:f.kind=8:=by simpa using h8
  split
  ·rename_i h0
   refine ⟨?_,rfl,Nat.le_refl _⟩
   simp only [more0,h8,h0,and_self,if_true,Nat.add_zero] at h ⊢
   omega
  ·rename_i h0
   have e0:more0 [f]=0:=by simp [more0,h0]
   rw [e0]
   split
   ·exact ⟨by simp,rfl,Nat.le_refl _⟩
   ·rename_i k hk
    exact ⟨by simp [setSt],by simp [setSt],gone_set _ _ _ (fun q=>q)⟩
theorem waitM_room:∀(l:List Fr) (e:En),e.room+more0 l≤31→(waitM e l).1.room=e.room+more0 l∧(waitM e l).1.strs.length=e.strs.length∧gone e.strs≤gone (waitM e l).1.strs
 | [],e,h=>⟨by simp [waitM,more0],rfl,Nat.le_refl _⟩
 | f :: l,e,h=>by
  have hm:more0 (f :: l)=more0 [f]+more0 l:=by simp [more0]
  obtain ⟨a1,a2,a3⟩:=roomM_room e f (by omega)
  obtain ⟨b1,b2,b3⟩:=waitM_room l (roomM e f) (by omega)
  exact ⟨by show (waitM (roomM e f) l).1.room=_; omega,b2.trans a2,Nat.le_trans a3 b3⟩
theorem writeM_loc {e:En} (h:Loc e):Loc (writeM e).1∧(writeM e).1.wait=[]:=by
 obtain ⟨a1,a2,a3⟩:=waitM_room e.wait e (by have:=h.sum; omega)
 obtain ⟨b1,b2,b3,b4⟩:=saysM_room e.strs.length 0 { (waitM e e.wait).1 with wait:=[] }
 have hw:(writeM e).1=(saysM e.strs.length 0 { (waitM e e.wait).1 with wait:=[] }).1:=rfl
 rw [hw]
 refine ⟨⟨?_,?_,?_⟩,b2⟩
 ·rw [b1,b2]; simp only [more0]; have:=h.sum; simp only [a1]; omega
 ·rw [b2]; simp [more0]
 ·rw [b3]; simp only [a2]; exact h.four
theorem doneM_state (ans:Bool) (s:St) (h:s.state=3):(doneM ans s).state=3:=by unfold doneM; rw [if_pos (by rw [h]; decide)]; exact h
theorem growM_loc {N:Nat} {e:En} (h:Loc e) (hw:EnW N e) {id:Int} (hid:strmOk id=true):Loc (growM e id):=by
 have hg:=growM_w hw hid
 have h4:=stsOk_len hg.sts
 revert h4
 unfold growM
 split
 ·intro h4
  refine ⟨h.sum,?_,h4⟩
  have:=h.len
  simp only [gone_app]; omega
 ·intro _; exact h
structure WoL (w:Wo):Prop where
 caller:Loc w.caller
 answerer:Loc w.answerer
theorem sayWM_loc {w:Wo} (h:WoL w) (side:Int):WoL (sayWM w side):=by
 unfold sayWM
 split
 ·split
  ·exact ⟨(writeM_loc h.caller).1,h.answerer⟩
  ·exact h
 ·split
  ·split
   ·exact ⟨h.caller,(writeM_loc h.answerer).1⟩
   ·exact h
  ·exact h
theorem WoW.ok {w:Wo} (h:WoW 36 w):woOk w=true:=woOk_iff.2 (h.mono (by decide))
end
section
def Inc (e:En):Prop:=e.bad=true∨(frR e.came).2.2=0
theorem hearsM_stops:∀(n:Nat) (e:En),e.came.length < n→Inc (hearsM n e)
 | 0,e,h=>absurd h (Nat.not_lt_zero _)
 | n+1,e,h=>by
  unfold hearsM
  split
  ·rename_i hb; exact .inl hb
  ·simp only
   split
   ·exact .inl rfl
   ·split
    ·rename_i h0; exact .inr h0
    ·rename_i h1 h2
     obtain ⟨g1,g2,g3,g4⟩:=frR_some (b:=e.came) (by omega)
     refine hearsM_stops n _ ?_
     rw [frameM_came]
     simp only [List.length_drop]; omega
theorem hearM_inc (e:En) (b:List UInt8):Inc (hearM e b):=hearsM_stops _ _ (by simp)
theorem hearWM_inc {e:En} (h:Inc e) (b:List UInt8):Inc (hearWM e b):=by
 unfold hearWM
 split
 ·exact h
 ·exact hearM_inc e b
theorem saysM_cb:∀(n k:Nat) (e:En),(saysM n k e).1.came=e.came∧(saysM n k e).1.bad=e.bad
 | 0,k,e=>⟨rfl,rfl⟩
 | n+1,k,e=>by
  obtain ⟨b1,b2⟩:=saysM_cb n (k+1) (sayM e k).1
  have a:(sayM e k).1.came=e.came∧(sayM e k).1.bad=e.bad:=by
   unfold sayM
   simp only
   split
   ·exact ⟨rfl,rfl⟩
   ·have h1:∀x s,(beginM x s).1.came=x.came∧(beginM x s).1.bad=x.bad:=fun x s=>by unfold beginM; split <;> exact ⟨rfl,rfl⟩
    have h2:∀x s,(pieceM x s).1.came=x.came∧(pieceM x s).1.bad=x.bad:=fun x s=>by unfold pieceM; split <;> exact ⟨rfl,rfl⟩
    exact ⟨(h2 _ _).1.trans (h1 _ _).1,(h2 _ _).2.trans (h1 _ _).2⟩
  exact ⟨b1.trans a.1,b2.trans a.2⟩
theorem waitM_cb:∀(l:List Fr) (e:En),(waitM e l).1.came=e.came∧(waitM e l).1.bad=e.bad
 | [],e=>⟨rfl,rfl⟩
 | f :: l,e=>by
  obtain ⟨b1,b2⟩:=waitM_cb l (roomM e f)
  have a:(roomM e f).came=e.came∧(roomM e f).bad=e.bad:=by
   unfold roomM
   split
   ·exact ⟨rfl,rfl⟩
   ·split
    ·exact ⟨rfl,rfl⟩
    ·split <;> exact ⟨rfl,rfl⟩
  exact ⟨b1.trans a.1,b2.trans a.2⟩
theorem writeM_cb (e:En):(writeM e).1.came=e.came∧(writeM e).1.bad=e.bad:=by
 obtain ⟨a1,a2⟩:=waitM_cb e.wait e
 obtain ⟨b1,b2⟩:=saysM_cb e.strs.length 0 { (waitM e e.wait).1 with wait:=[] }
 exact ⟨b1.trans a1,b2.trans a2⟩
theorem callM_cb (e:En) (p t:List UInt8):(callM e p t).1.came=e.came∧(callM e p t).1.bad=e.bad:=by unfold callM; split <;> exact ⟨rfl,rfl⟩
theorem leaveM_cb (e:En) (id:Int):(leaveM e id).1.came=e.came∧(leaveM e id).1.bad=e.bad:=by
 unfold leaveM
 split
 ·exact ⟨rfl,rfl⟩
 ·split <;> exact ⟨rfl,rfl⟩
structure WoI (w:Wo):Prop where
 caller:Inc w.caller
 answerer:Inc w.answerer
theorem newEn_inc (a:Bool):Inc (newEn a):=.inr rfl
structure WoP (w:Wo):Prop where
 loc:WoL w
 inc:WoI w
def WoAll (w:Wo):Prop:=WoW 36 w∧WoP w
theorem WoAll.ok {w:Wo} (h:WoAll w):woOk w=true:=h.1.ok
end
section
open Go
def EvS (v:Ev):Prop:=v.path.length≤20∧v.text.length≤20
theorem EvS.b {v:Ev} (h:EvS v):EvB v:=⟨by have:=h.1; omega,by have:=h.2; omega⟩
end
section
open Go
inductive Spoilt (x:Wo):Wo→Prop where
 | none:Spoilt x x
 | ans:Spoilt x { x with caller:={ x.caller with ans:=true } }
 | up (o:List UInt8):o.length≤10→Spoilt x { x with up:=x.up++o }
 | table (t:List Fd) (m:Int):t.length≤20→(∀f ∈ t,FdS f)→Spoilt x { x with answerer:={ x.answerer with inn:=t,innM:=m } }
 | id (k:Int):0≤k→k < 9→x.caller.strs≠[]→Spoilt x { x with caller:={ x.caller with strs:=x.caller.strs.set 0 { x.caller.strs.getD 0 st0 with id:=k } } }
def Drawn (w:Wo):Prop:=∃l:List Ev,l.length≤58∧(∀v ∈ l,EvS v)∧Spoilt (playM l) w
theorem Drawn.b {w:Wo} (h:Drawn w):WoB w:=by
 obtain ⟨l,hl,hv,hs⟩:=h
 have hW:=playM_w l
 have hB:=hW.b (by omega)
 have hup:=hW.up
 cases hs with
 | none=>exact hB
 | ans=>exact ⟨⟨hB.caller.sts,hB.caller.len,hB.caller.wait,hB.caller.out,hB.caller.inn,hB.caller.came⟩,hB.answerer,hB.up,hB.down⟩
 | up o ho=>exact ⟨hB.caller,hB.answerer,by simp only [List.length_append]; omega,hB.down⟩
 | table t m ht hf=>exact ⟨hB.caller,⟨hB.answerer.sts,hB.answerer.len,hB.answerer.wait,hB.answerer.out,⟨by simp only; omega,fun f hf'=>(hf f hf').b⟩,hB.answerer.came⟩,hB.up,hB.down⟩
 | id k h1 h2 h3 =>
  have hp:=List.length_pos_iff.2 h3
  refine ⟨⟨fun s hs=>?_,by simp only [List.length_set]; exact hB.caller.len,hB.caller.wait,hB.caller.out,hB.caller.inn,hB.caller.came⟩,hB.answerer,hB.up,hB.down⟩
  have h0:=hB.caller.sts _ (getD_memS hp)
  rcases List.mem_or_eq_of_mem_set hs with g | g
  ·exact hB.caller.sts s g
  ·subst g
   exact ⟨h0.head,h0.got,h0.say,h0.text⟩
end
section
open Go
def DrawnE (e:En) (wire:List UInt8):Prop:=∃w:Wo,Drawn w∧((e=w.caller∧wire=w.down)∨(e=w.answerer∧wire=w.up))
theorem DrawnE.b {e:En} {wire:List UInt8} (h:DrawnE e wire):EnB e∧wire.length≤1100000:=by
 obtain ⟨w,hd,h⟩:=h
 have hB:=hd.b
 rcases h with ⟨rfl,rfl⟩ | ⟨rfl,rfl⟩
 ·exact ⟨hB.caller,hB.down⟩
 ·exact ⟨hB.answerer,hB.up⟩
end
section
end
section
open Go
theorem three {a b c:Int} {x:Nat} (h:x < 3):∃z:Int,[V.int .i64 a,V.int .i64 b,V.int .i64 c].getD x .junk=.int .i64 z:=by
 rcases (by omega:x=0∨x=1∨x=2) with rfl | rfl | rfl <;> exact ⟨_,rfl⟩
end
section
open Go
theorem four {a b c d:Int} {x:Nat} (hx:x < 4):∃z:Int,((z=a∨z=b)∨(z=c∨z=d))∧[V.int .i64 a,V.int .i64 b,V.int .i64 c,V.int .i64 d].getD x .junk=.int .i64 z:=by
 rcases (by omega:x=0∨x=1∨x=2∨x=3) with rfl | rfl | rfl | rfl
 ·exact ⟨a,.inl (.inl rfl),rfl⟩
 ·exact ⟨b,.inl (.inr rfl),rfl⟩
 ·exact ⟨c,.inr (.inl rfl),rfl⟩
 ·exact ⟨d,.inr (.inr rfl),rfl⟩
end
section
open Go
theorem worldDoM_b {w:Wo} (hB:WoB w) (v:Ev):WoB (worldDoM w v):=by
 rw [worldDoM]
 split
 ·exact ⟨⟨by simp [wo0,en0],by simp [wo0,en0],by simp [wo0,en0],⟨by simp [wo0,en0],by simp [wo0,en0]⟩,⟨by simp [wo0,en0],by simp [wo0,en0]⟩,by simp [wo0,en0]⟩,⟨by simp [wo0,en0],by simp [wo0,en0],by simp [wo0,en0],⟨by simp [wo0,en0],by simp [wo0,en0]⟩,⟨by simp [wo0,en0],by simp [wo0,en0]⟩,by simp [wo0,en0]⟩,by simp [wo0],by simp [wo0]⟩
 ·rename_i h
  have hE:woOk w=true:=by cases hq:woOk w <;> simp_all
  exact (doM_w ((woOk_w hE).mono (show 60≤642 by decide)) (by decide) v).b (by decide)
end
section
open Go
theorem eqWorld_X {w:Wo} (hB:WoB w) {S:List Blk} {p q p' q':XP} (h:WX S p q w) (g:WX S p' q' w):VCall Tryz.prog 20 [pV p q w,pV p' q' w] S fun r S'=>r=.bool true∧S'=S :=
 VCall.borrow2 ⟨_,Tryz.func20,rfl,rfl⟩ (fun S=>eqWorld_self w hB S) (.bool _) (borM_of (.cons h.borE (.cons g.borE .nil)))
theorem heldWorld_X {w:Wo} (hB:WoB w) (k:Nat) (hk:k+cntW w≤90000000) {S:List Blk} {p q:XP} (h:WX S p q (markW w k)):VCall Tryz.prog 22 [pV p q (markW w k),.int .i64 k] S fun r S'=>r=.int .i64 ((k+cntW w:Nat):Int)∧S'=S :=
 VCall.borrow2 ⟨_,Tryz.func22,rfl,rfl⟩ (fun S=>heldWorld_ok w hB k hk S) (.int _ _) (borM_of (.cons h.borE (.cons (borE_int _ _) .nil)))
theorem markE_lens (e:En) (k:Nat):(markE e k).out.length=e.out.length∧(markE e k).inn.length=e.inn.length∧(markE e k).strs.length=e.strs.length∧(markE e k).wait.length=e.wait.length:=by
 simp [markE,mkFs_len,mkSs_len,mkFrs_len]
theorem pE_mark (p:XP) (e:En) (k:Nat) (ls:List XS):pE { p with ls:=ls } (markE e k)=pE p e:=by
 obtain ⟨h1,h2,h3,h4⟩:=markE_lens e k
 unfold pE
 rw [h3,h4]
 rfl
theorem pV_mark (p q:XP) (w:Wo) (k:Nat) (ls ks:List XS):pV { p with ls:=ls } { q with ls:=ks } (markW w k)=pV p q w:=by
 unfold pV pC
 have h1:=pE_mark p w.caller k ls
 have h2:=pE_mark q w.answerer (k+cntE w.caller) ks
 show V.agg (pE { p with ls:=ls } (markE w.caller k)++pE { q with ls:=ks } (markE w.answerer (k+cntE w.caller))++[.str w.up,.str w.down])=_
 rw [h1,h2]
end
section
open Go
def owC (po pi b c qo qi d f:Nat) (w:Wo):List V:=enX (.heap po w.caller.out.length) (.heap pi w.caller.inn.length) (.heap b w.caller.strs.length) (.heap c w.caller.wait.length) w.caller++enX (.heap qo w.answerer.out.length) (.heap qi w.answerer.inn.length) (.heap d w.answerer.strs.length) (.heap f w.answerer.wait.length) w.answerer++[.str w.up,.str w.down]
@[push_cast] theorem owC_eq (po pi b c qo qi d f:Nat) (w:Wo):owC po pi b c qo qi d f w=enX (.heap po w.caller.out.length) (.heap pi w.caller.inn.length) (.heap b w.caller.strs.length) (.heap c w.caller.wait.length) w.caller++enX (.heap qo w.answerer.out.length) (.heap qi w.answerer.inn.length) (.heap d w.answerer.strs.length) (.heap f w.answerer.wait.length) w.answerer++[.str w.up,.str w.down]:=rfl
def xpR (b c:Nat) (e:En):XP:=⟨.rows none (e.out.map fV),.rows none (e.inn.map fV),b,c,rowsL e.strs⟩
def xpO (po pi b c:Nat) (ls:List XS) (e:En):XP:=⟨.heap po e.out.length,.heap pi e.inn.length,b,c,ls⟩
theorem WoAt.wx {S:List Blk} {b c d f:Nat} {w:Wo} (h:WoAt S b c d f w):WX S (xpR b c w.caller) (xpR d f w.answerer) w:=⟨h.caller.x,h.answerer.x⟩
theorem WoO.wx {S S':List Blk} {po pi b c:Nat} {ls:List XS} {qo qi d f:Nat} {ks:List XS} {w:Wo} (h:WoO S po pi b c ls qo qi d f ks w S'):WX S' (xpO po pi b c ls w.caller) (xpO qo qi d f ks w.answerer) w:=⟨h.caller.x,h.answerer.x⟩
theorem WoO.upd2 {S S' S2:List Blk} {po pi b c:Nat} {ls:List XS} {qo qi d f:Nat} {ks:List XS} {w:Wo} (h:WoO S po pi b c ls qo qi d f ks w S') (hu:Upd [] S' S2):WoO S po pi b c ls qo qi d f ks w S2:=⟨h.caller.upd2 hu,h.answerer.upd2 hu,h.sep⟩
def wBlks (po pi b c:Nat) (ls:List XS) (qo qi d f:Nat) (ks:List XS):List Nat:=eBlks po pi b c ls++eBlks qo qi d f ks
theorem WoO.below {S S':List Blk} {po pi b c:Nat} {ls:List XS} {qo qi d f:Nat} {ks:List XS} {w:Wo} (h:WoO S po pi b c ls qo qi d f ks w S'):∀p ∈ wBlks po pi b c ls qo qi d f ks,p < S'.length:=fun p hp=>(List.mem_append.1 hp).elim (h.caller.below p) (h.answerer.below p)
theorem WoO.above {S S':List Blk} {po pi b c:Nat} {ls:List XS} {qo qi d f:Nat} {ks:List XS} {w:Wo} (h:WoO S po pi b c ls qo qi d f ks w S'):∀p ∈ wBlks po pi b c ls qo qi d f ks,S.length≤p:=fun p hp=>(List.mem_append.1 hp).elim (h.caller.above p) (h.answerer.above p)
theorem WoO.keep {S0 S S':List Blk} {po pi b c:Nat} {ls:List XS} {qo qi d f:Nat} {ks:List XS} {w:Wo} (h:WoO S0 po pi b c ls qo qi d f ks w S) {bs:List Nat} (hu:Upd bs S S') (hd:∀p ∈ wBlks po pi b c ls qo qi d f ks,p ∉ bs) (hl:∀p ∈ bs,S0.length≤p):WoO S0 po pi b c ls qo qi d f ks w S' :=
 ⟨h.caller.keep hu (fun p hp=>hd p (List.mem_append_left _ hp)) hl,h.answerer.keep hu (fun p hp=>hd p (List.mem_append_right _ hp)) hl,h.sep⟩
theorem WoAt.keep {S S':List Blk} {b c d f:Nat} {w:Wo} (h:WoAt S b c d f w) {bs:List Nat} (hu:Upd bs S S') (h1:b ∉ bs) (h2:c ∉ bs) (h3:d ∉ bs) (h4:f ∉ bs):WoAt S' b c d f w:=⟨h.caller.upd hu h1 h2,h.answerer.upd hu h3 h4,h.ne1,h.ne2⟩
theorem xpO_mark (po pi b c:Nat) (ls ks:List XS) (e:En) (k:Nat):xpO po pi b c ks (markE e k)={ xpO po pi b c ls e with ls:=ks }:=by
 obtain ⟨h1,h2,_,_⟩:=markE_lens e k
 unfold xpO
 rw [h1,h2]
theorem do_small {w:Wo} (v:Ev):cntW (worldDoM w v)≤20000:=by
 unfold worldDoM
 split
 ·have:cntW wo0=0:=rfl
  omega
 ·rename_i hn
  have hE:woOk w=true:=by cases q:woOk w <;> simp_all
  have hw:=doM_w ((woOk_w hE).mono (show 60≤642 by decide)) (Nat.le_refl _) v
  have h1:=cntE_w hw.caller
  have h2:=cntE_w hw.answerer
  unfold cntW
  omega
end
end Go.Proofs.YtldogccmhncnoaaGreatDoor
