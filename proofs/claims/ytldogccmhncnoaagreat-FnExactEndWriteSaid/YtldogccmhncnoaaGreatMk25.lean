/- A part of the proof: contracts of functions, or plain facts on which these lean. -/
import Derived.Test.YtldogccmhncnoaaGreatMk19
import Derived.Test.YtldogccmhncnoaaGreatMk21
import Derived.Test.YtldogccmhncnoaaGreatMk23
import Derived.Test.YtldogccmhncnoaaGreatMk24
namespace Go.Proofs.YtldogccmhncnoaaGreat
open Go
set_option linter.unusedVariables false
set_option linter.unusedSimpArgs false
set_option maxRecDepth 100000
set_option maxHeartbeats 16000000

section
open Go
theorem szField_ok (f:Fd) (hz:ZF f) (left:Int) (h0:0≤left) (h1:left≤1048576) (S:List Blk):VCall Tryz.prog 71 [fV f,.int .i64 left] S fun r S'=>r=.int .i64 (subN left (cF f))∧S'=S:=by
 obtain ⟨z1,z2⟩:=hz
 unfold mxL at *
 refine VCall.en hD Tryz.func71 Tryz.ntmps71 Tryz.results71 ?_
 by_cases g0:left - (f.name.length:Int) < 0
 ·simp -implicitDefEqProofs (maxSteps:=1000000) (disch:=omega) only [push_cast,simprocAttr,g0,↓gd]
  exact fin1 (.int _ _) (by rw [subN_no (by unfold cF; omega)])
 by_cases g1:left - (f.name.length:Int) - (f.val.length:Int) < 0
 ·simp -implicitDefEqProofs (maxSteps:=1000000) (disch:=omega) only [push_cast,simprocAttr,g0,g1,↓gd]
  exact fin1 (.int _ _) (by rw [subN_no (by unfold cF; omega)])
 simp -implicitDefEqProofs (maxSteps:=1000000) (disch:=omega) only [push_cast,simprocAttr,g0,g1,↓gd]
 exact fin1 (.int _ _) (by rw [subN_in (by unfold cF; omega)]; unfold cF; first | (congr 1; done) | (congr 1; omega))
theorem szFieldS_ok (l:List Fd) (hz:ZL ZF l) (left:Int) (h0:0≤left) (h1:left≤1048576) (S:List Blk):VCall Tryz.prog 38 [.rows none (l.map fV),.int .i64 left] S fun r S'=>r=.int .i64 (subN left (cFs l))∧S'=S:=by
 obtain ⟨z1,z2⟩:=hz
 unfold mxL at z1
 refine VCall.en hD Tryz.func38 Tryz.ntmps38 Tryz.results38 ?_
 by_cases g:left - (l.length:Int) < 0
 ·simp -implicitDefEqProofs (maxSteps:=1000000) (disch:=omega) only [push_cast,simprocAttr,g,↓gd]
  exact fin0 (by rw [subN_no (by unfold cFs; omega)])
 simp -implicitDefEqProofs (maxSteps:=1000000) (disch:=omega) only [push_cast,simprocAttr,g,↓gd]
 refine wpV_loop (fun m t S'=>∃(i:Nat) (q:Int),m=l.length - i∧i≤l.length∧t 0=.rows none (l.map fV)∧t 1=.int .i64 q∧t 5=.int .i64 i∧q=left - (l.length:Int) - ((sumL cF (l.take i):Nat):Int)∧0≤q∧S'=S) l.length ⟨0,left - (l.length:Int),by omega,by omega,rfl,rfl,rfl,by simp [sumL],by omega,rfl⟩ ?_
 rintro m t S' ⟨i,q,rfl,hi,h0',h1',h5,hq,hle,rfl⟩
 refine wpV_of0 hD ?_
 by_cases hil:i < l.length
 ·have hil':(i:Int) < l.length:=by omega
  have hg:=getD_fV hil
  have hsn:=sumL_snoc (f:=cF) fd0 hil
  have hpt:=sumL_part (f:=cF) l (i+1)
  have hzf:=z2 _ (mem_getD fd0 hil)
  generalize l.getD i fd0=f at *
  have hcs:cFs l=l.length+sumL cF l:=rfl
  simp -implicitDefEqProofs (maxSteps:=1000000) (disch:=omega) only [push_cast,simprocAttr,h0',h1',h5,hil',hg,↓gd]
  repeat refine And.intro (by omega) ?_
  refine ((szField_ok f hzf q hle (by omega) _).as (by rfl)).to ?_
  by_cases hx:(cF f:Int)≤q
  ·rw [subN_in hx]
   have hn:¬(q - ((cF f:Nat):Int) < 0):=by omega
   simp -implicitDefEqProofs (maxSteps:=1000000) (disch:=omega) only [push_cast,simprocAttr,h0',h5,hn,↓gd]
   exact ⟨l.length - (i+1),by omega,i+1,q - ((cF f:Nat):Int),rfl,by omega,rfl,by simp,by rw [hsn]; omega,by omega⟩
  ·rw [subN_no hx]
   simp -implicitDefEqProofs (maxSteps:=1000000) (disch:=omega) only [push_cast,simprocAttr,↓gd]
   exact fin0 (by rw [subN_no (by omega)])
 ·have:i=l.length:=by omega
  subst this
  have hil':¬((l.length:Nat):Int) < l.length:=by omega
  rw [List.take_length] at hq
  have hcs:cFs l=l.length+sumL cF l:=rfl
  simp -implicitDefEqProofs (maxSteps:=1000000) (disch:=omega) only [push_cast,simprocAttr,h0',h1',h5,hil',↓gd]
  exact fin0 (by rw [subN_in (by omega)]; congr 1; omega)
theorem szTable_ok (l:List Fd) (max:Int) (hz:ZL ZF l) (left:Int) (h0:0≤left) (h1:left≤1048576) (S:List Blk):VCall Tryz.prog 11 [tV l max,.int .i64 left] S fun r S'=>r=.int .i64 (subN left (cFs l))∧S'=S:=by
 refine VCall.en hD Tryz.func11 Tryz.ntmps11 Tryz.results11 ?_
 simp -implicitDefEqProofs (maxSteps:=1000000) (disch:=omega) only [push_cast,simprocAttr,↓gd]
 refine ((szFieldS_ok l hz left h0 h1 _).as (by rfl)).to ?_
 by_cases g:((cFs l:Nat):Int)≤left
 ·have k:¬(left - ((cFs l:Nat):Int) < 0):=by omega
  rw [subN_in g]
  simp -implicitDefEqProofs (maxSteps:=1000000) (disch:=omega) only [push_cast,simprocAttr,k,↓gd]
  exact fin1 (.int _ _) rfl
 ·rw [subN_no g]
  simp -implicitDefEqProofs (maxSteps:=1000000) (disch:=omega) only [push_cast,simprocAttr,↓gd]
  exact fin1 (.int _ _) rfl
theorem szFrame_ok (f:Fr) (hz:ZFr f) (left:Int) (h0:0≤left) (h1:left≤1048576) (S:List Blk):VCall Tryz.prog 40 [frV f,.int .i64 left] S fun r S'=>r=.int .i64 (subN left (cFr f))∧S'=S:=by
 have z1:f.body.length≤mxL:=hz
 unfold mxL at z1
 refine VCall.en hD Tryz.func40 Tryz.ntmps40 Tryz.results40 ?_
 by_cases g0:left - (f.body.length:Int) < 0
 ·simp -implicitDefEqProofs (maxSteps:=1000000) (disch:=omega) only [push_cast,simprocAttr,g0,↓gd]
  exact fin1 (.int _ _) (by rw [subN_no (by unfold cFr; omega)])
 simp -implicitDefEqProofs (maxSteps:=1000000) (disch:=omega) only [push_cast,simprocAttr,g0,↓gd]
 exact fin1 (.int _ _) (by rw [subN_in (by unfold cFr; omega)]; unfold cFr; first | (congr 1; done) | (congr 1; omega))
theorem szFrameS_ok (l:List Fr) (hz:ZL ZFr l) (left:Int) (h0:0≤left) (h1:left≤1048576) (S:List Blk):VCall Tryz.prog 13 [.rows none (l.map frV),.int .i64 left] S fun r S'=>r=.int .i64 (subN left (cFrs l))∧S'=S:=by
 obtain ⟨z1,z2⟩:=hz
 unfold mxL at z1
 refine VCall.en hD Tryz.func13 Tryz.ntmps13 Tryz.results13 ?_
 by_cases g:left - (l.length:Int) < 0
 ·simp -implicitDefEqProofs (maxSteps:=1000000) (disch:=omega) only [push_cast,simprocAttr,g,↓gd]
  exact fin0 (by rw [subN_no (by unfold cFrs; omega)])
 simp -implicitDefEqProofs (maxSteps:=1000000) (disch:=omega) only [push_cast,simprocAttr,g,↓gd]
 refine wpV_loop (fun m t S'=>∃(i:Nat) (q:Int),m=l.length - i∧i≤l.length∧t 0=.rows none (l.map frV)∧t 1=.int .i64 q∧t 5=.int .i64 i∧q=left - (l.length:Int) - ((sumL cFr (l.take i):Nat):Int)∧0≤q∧S'=S) l.length ⟨0,left - (l.length:Int),by omega,by omega,rfl,rfl,rfl,by simp [sumL],by omega,rfl⟩ ?_
 rintro m t S' ⟨i,q,rfl,hi,h0',h1',h5,hq,hle,rfl⟩
 refine wpV_of0 hD ?_
 by_cases hil:i < l.length
 ·have hil':(i:Int) < l.length:=by omega
  have hg:=getD_frV hil
  have hsn:=sumL_snoc (f:=cFr) fr0 hil
  have hpt:=sumL_part (f:=cFr) l (i+1)
  have hzf:=z2 _ (mem_getD fr0 hil)
  generalize l.getD i fr0=f at *
  have hcs:cFrs l=l.length+sumL cFr l:=rfl
  simp -implicitDefEqProofs (maxSteps:=1000000) (disch:=omega) only [push_cast,simprocAttr,h0',h1',h5,hil',hg,↓gd]
  repeat refine And.intro (by omega) ?_
  refine ((szFrame_ok f hzf q hle (by omega) _).as (by rfl)).to ?_
  by_cases hx:(cFr f:Int)≤q
  ·rw [subN_in hx]
   have hn:¬(q - ((cFr f:Nat):Int) < 0):=by omega
   simp -implicitDefEqProofs (maxSteps:=1000000) (disch:=omega) only [push_cast,simprocAttr,h0',h5,hn,↓gd]
   exact ⟨l.length - (i+1),by omega,i+1,q - ((cFr f:Nat):Int),rfl,by omega,rfl,by simp,by rw [hsn]; omega,by omega⟩
  ·rw [subN_no hx]
   simp -implicitDefEqProofs (maxSteps:=1000000) (disch:=omega) only [push_cast,simprocAttr,↓gd]
   exact fin0 (by rw [subN_no (by omega)])
 ·have:i=l.length:=by omega
  subst this
  have hil':¬((l.length:Nat):Int) < l.length:=by omega
  rw [List.take_length] at hq
  have hcs:cFrs l=l.length+sumL cFr l:=rfl
  simp -implicitDefEqProofs (maxSteps:=1000000) (disch:=omega) only [push_cast,simprocAttr,h0',h1',h5,hil',↓gd]
  exact fin0 (by rw [subN_in (by omega)]; congr 1; omega)
theorem szStream_ok (f:St) (hz:ZS f) (left:Int) (h0:0≤left) (h1:left≤1048576) (S:List Blk):VCall Tryz.prog 39 [stV f,.int .i64 left] S fun r S'=>r=.int .i64 (subN left (cS f))∧S'=S:=by
 obtain ⟨z1,z2,z3,z4⟩:=hz
 unfold mxL at *
 refine VCall.en hD Tryz.func39 Tryz.ntmps39 Tryz.results39 ?_
 simp -implicitDefEqProofs (maxSteps:=1000000) (disch:=omega) only [push_cast,simprocAttr,↓gd]
 refine ((szFieldS_ok f.head z1 (left) (by omega) (by omega) _).as (by rfl)).to ?_
 by_cases g0:((cFs f.head:Nat):Int)≤left
 rotate_left
 ·rw [subN_no g0]
  simp -implicitDefEqProofs (maxSteps:=1000000) (disch:=omega) only [push_cast,simprocAttr,↓gd]
  exact fin1 (.int _ _) (by rw [subN_no (by unfold cS; omega)])
 rw [subN_in g0]
 have k0:¬(left - ((cFs f.head:Nat):Int) < 0):=by omega
 by_cases g1:left - ((cFs f.head:Nat):Int) - (f.say.length:Int) < 0
 ·simp -implicitDefEqProofs (maxSteps:=1000000) (disch:=omega) only [push_cast,simprocAttr,k0,g1,↓gd]
  exact fin1 (.int _ _) (by rw [subN_no (by unfold cS; omega)])
 simp -implicitDefEqProofs (maxSteps:=1000000) (disch:=omega) only [push_cast,simprocAttr,k0,g1,↓gd]
 refine ((szFieldS_ok f.got z3 (left - ((cFs f.head:Nat):Int) - (f.say.length:Int)) (by omega) (by omega) _).as (by rfl)).to ?_
 by_cases g2:((cFs f.got:Nat):Int)≤left - ((cFs f.head:Nat):Int) - (f.say.length:Int)
 rotate_left
 ·rw [subN_no g2]
  simp -implicitDefEqProofs (maxSteps:=1000000) (disch:=omega) only [push_cast,simprocAttr,↓gd]
  exact fin1 (.int _ _) (by rw [subN_no (by unfold cS; omega)])
 rw [subN_in g2]
 have k2:¬(left - ((cFs f.head:Nat):Int) - (f.say.length:Int) - ((cFs f.got:Nat):Int) < 0):=by omega
 by_cases g3:left - ((cFs f.head:Nat):Int) - (f.say.length:Int) - ((cFs f.got:Nat):Int) - (f.text.length:Int) < 0
 ·simp -implicitDefEqProofs (maxSteps:=1000000) (disch:=omega) only [push_cast,simprocAttr,k2,g3,↓gd]
  exact fin1 (.int _ _) (by rw [subN_no (by unfold cS; omega)])
 simp -implicitDefEqProofs (maxSteps:=1000000) (disch:=omega) only [push_cast,simprocAttr,k2,g3,↓gd]
 exact fin1 (.int _ _) (by rw [subN_in (by unfold cS; omega)]; unfold cS; first | (congr 1; done) | (congr 1; omega))
theorem szStreamS_ok (l:List St) (hz:ZL ZS l) (left:Int) (h0:0≤left) (h1:left≤1048576) (S:List Blk):VCall Tryz.prog 12 [.rows none (l.map stV),.int .i64 left] S fun r S'=>r=.int .i64 (subN left (cSs l))∧S'=S:=by
 obtain ⟨z1,z2⟩:=hz
 unfold mxL at z1
 refine VCall.en hD Tryz.func12 Tryz.ntmps12 Tryz.results12 ?_
 by_cases g:left - (l.length:Int) < 0
 ·simp -implicitDefEqProofs (maxSteps:=1000000) (disch:=omega) only [push_cast,simprocAttr,g,↓gd]
  exact fin0 (by rw [subN_no (by unfold cSs; omega)])
 simp -implicitDefEqProofs (maxSteps:=1000000) (disch:=omega) only [push_cast,simprocAttr,g,↓gd]
 refine wpV_loop (fun m t S'=>∃(i:Nat) (q:Int),m=l.length - i∧i≤l.length∧t 0=.rows none (l.map stV)∧t 1=.int .i64 q∧t 5=.int .i64 i∧q=left - (l.length:Int) - ((sumL cS (l.take i):Nat):Int)∧0≤q∧S'=S) l.length ⟨0,left - (l.length:Int),by omega,by omega,rfl,rfl,rfl,by simp [sumL],by omega,rfl⟩ ?_
 rintro m t S' ⟨i,q,rfl,hi,h0',h1',h5,hq,hle,rfl⟩
 refine wpV_of0 hD ?_
 by_cases hil:i < l.length
 ·have hil':(i:Int) < l.length:=by omega
  have hg:=getD_stV hil
  have hsn:=sumL_snoc (f:=cS) st0 hil
  have hpt:=sumL_part (f:=cS) l (i+1)
  have hzf:=z2 _ (mem_getD st0 hil)
  generalize l.getD i st0=f at *
  have hcs:cSs l=l.length+sumL cS l:=rfl
  simp -implicitDefEqProofs (maxSteps:=1000000) (disch:=omega) only [push_cast,simprocAttr,h0',h1',h5,hil',hg,↓gd]
  repeat refine And.intro (by omega) ?_
  refine ((szStream_ok f hzf q hle (by omega) _).as (by rfl)).to ?_
  by_cases hx:(cS f:Int)≤q
  ·rw [subN_in hx]
   have hn:¬(q - ((cS f:Nat):Int) < 0):=by omega
   simp -implicitDefEqProofs (maxSteps:=1000000) (disch:=omega) only [push_cast,simprocAttr,h0',h5,hn,↓gd]
   exact ⟨l.length - (i+1),by omega,i+1,q - ((cS f:Nat):Int),rfl,by omega,rfl,by simp,by rw [hsn]; omega,by omega⟩
  ·rw [subN_no hx]
   simp -implicitDefEqProofs (maxSteps:=1000000) (disch:=omega) only [push_cast,simprocAttr,↓gd]
   exact fin0 (by rw [subN_no (by omega)])
 ·have:i=l.length:=by omega
  subst this
  have hil':¬((l.length:Nat):Int) < l.length:=by omega
  rw [List.take_length] at hq
  have hcs:cSs l=l.length+sumL cS l:=rfl
  simp -implicitDefEqProofs (maxSteps:=1000000) (disch:=omega) only [push_cast,simprocAttr,h0',h1',h5,hil',↓gd]
  exact fin0 (by rw [subN_in (by omega)]; congr 1; omega)
theorem szEnd_ok (f:En) (hz:ZE f) (left:Int) (h0:0≤left) (h1:left≤1048576) (S:List Blk):VCall Tryz.prog 4 [erV f,.int .i64 left] S fun r S'=>r=.int .i64 (subN left (cE f))∧S'=S:=by
 obtain ⟨z1,z2,z3,z4,z5⟩:=hz
 unfold mxL at *
 refine VCall.en hD Tryz.func4 Tryz.ntmps4 Tryz.results4 ?_
 simp -implicitDefEqProofs (maxSteps:=1000000) (disch:=omega) only [push_cast,simprocAttr,↓gd]
 refine ((szTable_ok f.out f.outM z1 (left) (by omega) (by omega) _).as (by rfl)).to ?_
 by_cases g0:((cFs f.out:Nat):Int)≤left
 rotate_left
 ·rw [subN_no g0]
  simp -implicitDefEqProofs (maxSteps:=1000000) (disch:=omega) only [push_cast,simprocAttr,↓gd]
  exact fin1 (.int _ _) (by rw [subN_no (by unfold cE; omega)])
 rw [subN_in g0]
 have k0:¬(left - ((cFs f.out:Nat):Int) < 0):=by omega
 simp -implicitDefEqProofs (maxSteps:=1000000) (disch:=omega) only [push_cast,simprocAttr,k0,↓gd]
 refine ((szTable_ok f.inn f.innM z2 (left - ((cFs f.out:Nat):Int)) (by omega) (by omega) _).as (by rfl)).to ?_
 by_cases g1:((cFs f.inn:Nat):Int)≤left - ((cFs f.out:Nat):Int)
 rotate_left
 ·rw [subN_no g1]
  simp -implicitDefEqProofs (maxSteps:=1000000) (disch:=omega) only [push_cast,simprocAttr,↓gd]
  exact fin1 (.int _ _) (by rw [subN_no (by unfold cE; omega)])
 rw [subN_in g1]
 have k1:¬(left - ((cFs f.out:Nat):Int) - ((cFs f.inn:Nat):Int) < 0):=by omega
 by_cases g2:left - ((cFs f.out:Nat):Int) - ((cFs f.inn:Nat):Int) - (f.came.length:Int) < 0
 ·simp -implicitDefEqProofs (maxSteps:=1000000) (disch:=omega) only [push_cast,simprocAttr,k1,g2,↓gd]
  exact fin1 (.int _ _) (by rw [subN_no (by unfold cE; omega)])
 simp -implicitDefEqProofs (maxSteps:=1000000) (disch:=omega) only [push_cast,simprocAttr,k1,g2,↓gd]
 refine ((szStreamS_ok f.strs z4 (left - ((cFs f.out:Nat):Int) - ((cFs f.inn:Nat):Int) - (f.came.length:Int)) (by omega) (by omega) _).as (by rfl)).to ?_
 by_cases g3:((cSs f.strs:Nat):Int)≤left - ((cFs f.out:Nat):Int) - ((cFs f.inn:Nat):Int) - (f.came.length:Int)
 rotate_left
 ·rw [subN_no g3]
  simp -implicitDefEqProofs (maxSteps:=1000000) (disch:=omega) only [push_cast,simprocAttr,↓gd]
  exact fin1 (.int _ _) (by rw [subN_no (by unfold cE; omega)])
 rw [subN_in g3]
 have k3:¬(left - ((cFs f.out:Nat):Int) - ((cFs f.inn:Nat):Int) - (f.came.length:Int) - ((cSs f.strs:Nat):Int) < 0):=by omega
 simp -implicitDefEqProofs (maxSteps:=1000000) (disch:=omega) only [push_cast,simprocAttr,k3,↓gd]
 refine ((szFrameS_ok f.wait z5 (left - ((cFs f.out:Nat):Int) - ((cFs f.inn:Nat):Int) - (f.came.length:Int) - ((cSs f.strs:Nat):Int)) (by omega) (by omega) _).as (by rfl)).to ?_
 by_cases g4:((cFrs f.wait:Nat):Int)≤left - ((cFs f.out:Nat):Int) - ((cFs f.inn:Nat):Int) - (f.came.length:Int) - ((cSs f.strs:Nat):Int)
 rotate_left
 ·rw [subN_no g4]
  simp -implicitDefEqProofs (maxSteps:=1000000) (disch:=omega) only [push_cast,simprocAttr,↓gd]
  exact fin1 (.int _ _) (by rw [subN_no (by unfold cE; omega)])
 rw [subN_in g4]
 have k4:¬(left - ((cFs f.out:Nat):Int) - ((cFs f.inn:Nat):Int) - (f.came.length:Int) - ((cSs f.strs:Nat):Int) - ((cFrs f.wait:Nat):Int) < 0):=by omega
 simp -implicitDefEqProofs (maxSteps:=1000000) (disch:=omega) only [push_cast,simprocAttr,k4,↓gd]
 exact fin1 (.int _ _) (by rw [subN_in (by unfold cE; omega)]; unfold cE; first | (congr 1; done) | (congr 1; omega))
end
section
open Go
structure CalmAt (I:Wo→Prop) (S:List Blk) (b c d f:Nat) (x:Wo) (b1 c1 d1 f1:Nat) (S2:List Blk):Prop where
 var:S2[S.length]?=some (.cells 0 (wC b1 c1 d1 f1 x))
 zero:S2[S.length+1]?=some (.cells 0 zW)
 to:WoTo S b c d f x b1 c1 d1 f1 S2
 upd:Upd [] S S2
 i:I x
 w:WoW 642 x
theorem CalmAt.step {I:Wo→Prop} {S:List Blk} {b c d f:Nat} {x y:Wo} {b1 c1 d1 f1 b2 c2 d2 f2:Nat} {S2 S3:List Blk} (h:CalmAt I S b c d f x b1 c1 d1 f1 S2) (q:WoTo S2 b1 c1 d1 f1 y b2 c2 d2 f2 S3) (hu:Upd [] S2 S3) (hi:I y) (hw:WoW 642 y) :
  CalmAt I S b c d f y b2 c2 d2 f2 (S3.set S.length (.cells 0 (wC b2 c2 d2 f2 y))):=by
 have k0:=hu.get h.var (by simp)
 have k1:=hu.get h.zero (by simp)
 have l0:=lt_of_some k0
 have hn:=h.to.trans q
 have v0:=hn.at_.var k0
 refine ⟨by rw [List.getElem?_set,if_pos rfl,if_pos l0],?_,hn.set (j:=S.length) _ (Nat.le_refl _) v0,(h.upd.trans hu).set _ (.inl (Nat.le_refl _)),hi,hw⟩
 rw [get_set_ne (by omega)]
 exact k1
end
section
open Go
structure CalmX (I:Wo→Prop) (S:List Blk) (x:Wo) (p q:XP) (S2:List Blk):Prop where
 var:S2[S.length]?=some (.cells 0 (pC p q x))
 zero:S2[S.length+1]?=some (.cells 0 zW)
 at_:WX S2 p q x
 upd:Upd [] S S2
 i:I x
 w:WoW 642 x
theorem CalmX.step {I:Wo→Prop} {S:List Blk} {x y:Wo} {p q p' q':XP} {S2 S3:List Blk} (h:CalmX I S x p q S2) (g:WX S3 p' q' y) (hu:Upd [] S2 S3) (hi:I y) (hw:WoW 642 y) :
  CalmX I S y p' q' (S3.set S.length (.cells 0 (pC p' q' y))):=by
 have k0:=hu.get h.var (by simp)
 have k1:=hu.get h.zero (by simp)
 have l0:=lt_of_some k0
 refine ⟨by rw [List.getElem?_set,if_pos rfl,if_pos l0],?_,g.var _ k0,(h.upd.trans hu).set _ (.inl (Nat.le_refl _)),hi,hw⟩
 rw [get_set_ne (by omega)]
 exact k1
end
section
open Go
theorem WoNew.x {S S':List Blk} {w:Wo} {b c d f:Nat} (h:WoNew S w b c d f S'):RWX S' w (wV b c d f w) :=
 ⟨⟨_,_,b,c,_⟩,⟨_,_,d,f,_⟩,rfl,⟨h.at_.caller.x,h.at_.answerer.x⟩⟩
end
section
open Go
theorem VCall.wk {P:Program} {f:FuncId} {xs:List V} {S:List Blk} {q q':V→List Blk→Prop} (hf:Enters P f) (h:VCall P f xs S q) (hk:∀r S',q r S'→∃r2 S2,Wk S r S' r2 S2∧q' r2 S2):VCall P f xs S q':=by
 rcases h with ⟨he,r,S',hq,hd⟩ | ⟨r,hq,hx⟩
 ·obtain ⟨r2,S2,hw,hq'⟩:=hk r S' hq
  refine .inl ⟨he,r2,S2,hq',fun G w cargs hA hR=>Calls.mono (hd G w cargs hA hR) ?_⟩
  rintro e w' ⟨c,G',rfl,hv,hR',hE⟩
  obtain ⟨G2,h1,h2,h3⟩:=hw G w G' w' c hR hE hv hR'
  exact ⟨c,G2,rfl,h1,h2,h3⟩
 ·refine .inl ⟨hf,?_⟩
  obtain ⟨r2,S2,hw,hq'⟩:=hk r S hq
  refine ⟨r2,S2,hq',fun G w cargs hA hR=>?_⟩
  obtain ⟨c,hc,_⟩:=hx G w cargs hA
  exact absurd hc (xcall_no hf cargs w c)
theorem toField_ok (f:Fd) (S:List Blk):VCall Tryz.prog 81 [fV f] S fun r S'=>r=fV f∧S'=S:=by
 refine VCall.en hD Tryz.func81 Tryz.ntmps81 Tryz.results81 ?_
 simp -implicitDefEqProofs (maxSteps:=1000000) (disch:=omega) only [push_cast,simprocAttr,↓gd]
 exact fin1 (cl_fV _ _) rfl
theorem toFrame_ok (f:Fr) (S:List Blk):VCall Tryz.prog 51 [frV f] S fun r S'=>r=frV f∧S'=S:=by
 refine VCall.en hD Tryz.func51 Tryz.ntmps51 Tryz.results51 ?_
 simp -implicitDefEqProofs (maxSteps:=1000000) (disch:=omega) only [push_cast,simprocAttr,↓gd]
 exact fin1 (by simp [cl_agg,cl_int,cl_bool,cl_str]) rfl
theorem toFlow_ok (s q:Int) (S:List Blk):VCall Tryz.prog 19 [.agg [.int .i64 s,.int .i64 q]] S fun r S'=>r=.agg [.int .i64 s,.int .i64 q]∧S'=S:=by
 refine VCall.en hD Tryz.func19 Tryz.ntmps19 Tryz.results19 ?_
 simp -implicitDefEqProofs (maxSteps:=1000000) (disch:=omega) only [push_cast,simprocAttr,↓gd]
 exact fin1 (by simp [cl_agg,cl_int]) rfl
theorem cl_stV (n:Nat) (s:St):Cl n (stV s):=by
 refine .agg ?_
 simp only [strC,List.mem_cons,List.not_mem_nil,or_false,forall_eq_or_imp,forall_eq]
 exact ⟨.int _ _,.int _ _,cl_fds _ _,.str _,.bool _,.bool _,.int _ _,cl_fds _ _,.str _,.bool _,.int _ _,.int _ _⟩
theorem toFieldS_O (l:List Fd) (hl:l.length≤2000000) (S:List Blk):VCall Tryz.prog 49 [.rows none (l.map fV)] S fun r S'=>r=.heap S.length l.length∧S'=S++[.cells 3 (fcs l)]:=by
 have hz:(List.replicate l.length [V.str [],V.str [],V.bool false]).flatten=fcs (pad fd0 l 0):=by rw [pad_zero]; exact rep_cells fdC fd0 _ rfl _
 refine VCall.en hDf Tryz.func49 Tryz.ntmps49 Tryz.results49 ?_
 simp -implicitDefEqProofs (maxSteps:=1000000) (disch:=omega) only [push_cast,simprocAttr,↓gd]
 repeat refine And.intro (by omega) ?_
 refine wpV_loop (fun m t S'=>∃i:Nat,m=l.length - i∧i≤l.length∧t 0=.rows none (l.map fV)∧t 3=.heap S.length l.length∧t 4=.int .i64 i∧S'=S++[.cells 3 (fcs (pad fd0 l i))]) l.length ⟨0,by omega,by omega,rfl,rfl,rfl,by first | (rw [←hz]; done) | (rw [←hz]; rfl)⟩ ?_
 rintro m t S' ⟨i,rfl,hi,h0,h3,h4,rfl⟩
 refine wpV_of0 hDf ?_
 by_cases hil:i < l.length
 ·have hil':(i:Int) < l.length:=by omega
  have hg:=getD_fV hil
  have hp:=fcs_put (l:=pad fd0 l i) (i:=i) (l.getD i fd0) (by rw [pad_len hi]; exact hil)
  rw [pad_set hil] at hp
  have hfl:=fcs_len (pad fd0 l i)
  rw [pad_len hi] at hfl
  generalize l.getD i fd0=f at *
  generalize fcs (pad fd0 l i)=C at *
  simp -implicitDefEqProofs (maxSteps:=1000000) (disch:=omega) only [push_cast,simprocAttr,h0,h3,h4,hil',hg,↓gd]
  repeat refine And.intro (by omega) ?_
  refine ((toField_ok f _).as (by rfl)).to ?_
  have hp':splice C (i * 3) (fdC f)=fcs (pad fd0 l (i+1)):=hp
  unfold fdC at hp'
  simp -implicitDefEqProofs (maxSteps:=1000000) (disch:=omega) only [push_cast,simprocAttr,h0,h3,h4,hp',↓gd]
  repeat refine And.intro (by omega) ?_
  exact ⟨l.length - (i+1),by omega,i+1,rfl,by omega,by simp,by simp⟩
 ·have:i=l.length:=by omega
  subst this
  have hil':¬((l.length:Nat):Int) < l.length:=by omega
  simp -implicitDefEqProofs (maxSteps:=1000000) (disch:=omega) only [push_cast,simprocAttr,h0,h3,h4,hil',↓gd]
  rw [pad_all]
  exact ⟨_,_,Wk.refl _ _ _,rfl,rfl⟩
theorem toFrameS_O (l:List Fr) (hl:l.length≤2000000) (S:List Blk):VCall Tryz.prog 20 [.rows none (l.map frV)] S fun r S'=>r=.heap S.length l.length∧S'=S++[.cells 4 (frmsC l)]:=by
 have hz:(List.replicate l.length [V.int .i64 0,V.bool false,V.int .i64 0,V.str []]).flatten=frmsC (pad fr0 l 0):=by rw [pad_zero]; exact rep_cells frmC fr0 _ rfl _
 refine VCall.en hDe Tryz.func20 Tryz.ntmps20 Tryz.results20 ?_
 simp -implicitDefEqProofs (maxSteps:=1000000) (disch:=omega) only [push_cast,simprocAttr,↓gd]
 repeat refine And.intro (by omega) ?_
 refine wpV_loop (fun m t S'=>∃i:Nat,m=l.length - i∧i≤l.length∧t 0=.rows none (l.map frV)∧t 3=.heap S.length l.length∧t 4=.int .i64 i∧S'=S++[.cells 4 (frmsC (pad fr0 l i))]) l.length ⟨0,by omega,by omega,rfl,rfl,rfl,by first | (rw [←hz]; done) | (rw [←hz]; rfl)⟩ ?_
 rintro m t S' ⟨i,rfl,hi,h0,h3,h4,rfl⟩
 refine wpV_of0 hDe ?_
 by_cases hil:i < l.length
 ·have hil':(i:Int) < l.length:=by omega
  have hg:=getD_frV hil
  have hp:=frmsC_put (l:=pad fr0 l i) (i:=i) (l.getD i fr0) (by rw [pad_len hi]; exact hil)
  rw [pad_set hil] at hp
  have hfl:=frmsC_len (pad fr0 l i)
  rw [pad_len hi] at hfl
  generalize l.getD i fr0=f at *
  generalize frmsC (pad fr0 l i)=C at *
  simp -implicitDefEqProofs (maxSteps:=1000000) (disch:=omega) only [push_cast,simprocAttr,h0,h3,h4,hil',hg,↓gd]
  repeat refine And.intro (by omega) ?_
  refine ((toFrame_ok f _).as (by rfl)).to ?_
  have hp':splice C (i * 4) (frmC f)=frmsC (pad fr0 l (i+1)):=hp
  unfold frmC at hp'
  simp -implicitDefEqProofs (maxSteps:=1000000) (disch:=omega) only [push_cast,simprocAttr,h0,h3,h4,hp',↓gd]
  repeat refine And.intro (by omega) ?_
  exact ⟨l.length - (i+1),by omega,i+1,rfl,by omega,by simp,by simp⟩
 ·have:i=l.length:=by omega
  subst this
  have hil':¬((l.length:Nat):Int) < l.length:=by omega
  simp -implicitDefEqProofs (maxSteps:=1000000) (disch:=omega) only [push_cast,simprocAttr,h0,h3,h4,hil',↓gd]
  rw [pad_all]
  exact ⟨_,_,Wk.refl _ _ _,rfl,rfl⟩
theorem toFieldS_R (l:List Fd) (hl:l.length≤2000000) (S:List Blk):VCall Tryz.prog 49 [.rows none (l.map fV)] S fun r S'=>r=.rows none (l.map fV)∧S'=S:=by
 refine VCall.wk ⟨_,Tryz.func49,rfl,rfl⟩ (toFieldS_O l hl S) ?_
 rintro r S' ⟨rfl,rfl⟩
 have h3:=fcs_len l
 exact fin_freeze rfl rfl (by omega) (by simp) (by rw [fds_cells,fcs_all]) (cl_fds _ _) rfl
theorem toTable_R (l:List Fd) (max:Int) (hl:FdsB l) (S:List Blk):VCall Tryz.prog 17 [tV l max] S fun r S'=>r=tV l max∧S'=S:=by
 refine VCall.en hD Tryz.func17 Tryz.ntmps17 Tryz.results17 ?_
 simp -implicitDefEqProofs (maxSteps:=1000000) (disch:=omega) only [push_cast,simprocAttr,↓gd]
 refine ((toFieldS_R l hl.1 _).as (by rfl)).to ?_
 simp -implicitDefEqProofs (maxSteps:=1000000) (disch:=omega) only [push_cast,simprocAttr,↓gd]
 exact fin1 (cl_tab _ _ _) rfl
theorem toTable_O (l:List Fd) (max:Int) (hl:FdsB l) (S:List Blk):VCall Tryz.prog 17 [tV l max] S fun r S'=>∃p,r=.agg [.heap p l.length,.int .i64 max]∧FNew S l p S':=by
 refine VCall.en hD Tryz.func17 Tryz.ntmps17 Tryz.results17 ?_
 simp -implicitDefEqProofs (maxSteps:=1000000) (disch:=omega) only [push_cast,simprocAttr,↓gd]
 refine ((toFieldS_O l hl.1 _).as (by rfl)).to ?_
 simp -implicitDefEqProofs (maxSteps:=1000000) (disch:=omega) only [push_cast,simprocAttr,↓gd]
 exact ⟨_,_,Wk.refl _ _ _,S.length+3,rfl,by simp -implicitDefEqProofs (maxSteps:=1000000) (disch:=omega) only [push_cast,simprocAttr,↓gd],by omega,(Upd.refl _ _).app _⟩
theorem toStream_R (s:St) (hs:StB s) (S:List Blk):VCall Tryz.prog 50 [stV s] S fun r S'=>r=stV s∧S'=S:=by
 have hh:=hs.head.1
 have hg:=hs.got.1
 refine VCall.en hD Tryz.func50 Tryz.ntmps50 Tryz.results50 ?_
 simp -implicitDefEqProofs (maxSteps:=1000000) (disch:=omega) only [push_cast,simprocAttr,↓gd]
 refine ((toFieldS_R s.head hh _).as (by rfl)).to ?_
 simp -implicitDefEqProofs (maxSteps:=1000000) (disch:=omega) only [push_cast,simprocAttr,↓gd]
 refine ((toFieldS_R s.got hg _).as (by rfl)).to ?_
 simp -implicitDefEqProofs (maxSteps:=1000000) (disch:=omega) only [push_cast,simprocAttr,↓gd]
 refine ((toFlow_ok s.send s.room _).as (by rfl)).to ?_
 simp -implicitDefEqProofs (maxSteps:=1000000) (disch:=omega) only [push_cast,simprocAttr,↓gd]
 exact fin1 (cl_stV _ _) rfl
theorem toStream_O (s:St) (hs:StB s) (S:List Blk):VCall Tryz.prog 50 [stV s] S fun r S'=>∃p q,r=.agg (strX s (.heap p s.head.length) (.heap q s.got.length))∧S'[p]?=some (.cells 3 (fcs s.head))∧S'[q]?=some (.cells 3 (fcs s.got))∧S.length≤p∧p < q∧Upd [] S S':=by
 have hh:=hs.head.1
 have hg:=hs.got.1
 refine VCall.en hD Tryz.func50 Tryz.ntmps50 Tryz.results50 ?_
 simp -implicitDefEqProofs (maxSteps:=1000000) (disch:=omega) only [push_cast,simprocAttr,↓gd]
 refine ((toFieldS_O s.head hh _).as (by rfl)).to ?_
 simp -implicitDefEqProofs (maxSteps:=1000000) (disch:=omega) only [push_cast,simprocAttr,↓gd]
 refine ((toFieldS_O s.got hg _).as (by rfl)).to ?_
 simp -implicitDefEqProofs (maxSteps:=1000000) (disch:=omega) only [push_cast,simprocAttr,↓gd]
 refine ((toFlow_ok s.send s.room _).as (by rfl)).to ?_
 simp -implicitDefEqProofs (maxSteps:=1000000) (disch:=omega) only [push_cast,simprocAttr,↓gd]
 exact ⟨_,_,Wk.refl _ _ _,S.length+3,S.length+4,rfl,by simp -implicitDefEqProofs (maxSteps:=1000000) (disch:=omega) only [push_cast,simprocAttr,↓gd],by simp -implicitDefEqProofs (maxSteps:=1000000) (disch:=omega) only [push_cast,simprocAttr,↓gd],by omega,by omega,(Upd.refl _ _).app _⟩
theorem toStreamS_R (l:List St) (hs:∀s ∈ l,StB s) (hl:l.length≤2000000) (S:List Blk):VCall Tryz.prog 18 [.rows none (l.map stV)] S fun r S'=>r=.heap S.length l.length∧S'=S++[.cells 12 (strsC l)]:=by
 have hz:(List.replicate l.length [V.int .i64 0,V.int .i64 0,V.nils,V.str [],V.bool false,V.bool false,V.int .i64 0,V.nils,V.str [],V.bool false,V.int .i64 0,V.int .i64 0]).flatten=xsC ([]++List.replicate (l.length - ([]:List XS).length) xs0):=rep_cells xsF xs0 _ rfl _
 refine VCall.en hDe Tryz.func18 Tryz.ntmps18 Tryz.results18 ?_
 simp -implicitDefEqProofs (maxSteps:=1000000) (disch:=omega) only [push_cast,simprocAttr,↓gd]
 repeat refine And.intro (by omega) ?_
 refine wpV_loop (fun m t S'=>∃i:Nat,m=l.length - i∧i≤l.length∧t 0=.rows none (l.map stV)∧t 3=.heap S.length l.length∧t 4=.int .i64 i∧S'=S++[.cells 12 (xsC (rowsL (l.take i)++List.replicate (l.length - (rowsL (l.take i)).length) xs0))]) l.length ⟨0,by omega,by omega,rfl,rfl,rfl,by rw [show rowsL (l.take 0)=[] from rfl]; first | (rw [←hz]; done) | (rw [←hz]; rfl)⟩ ?_
 rintro m t S' ⟨i,rfl,hi,h0,h3,h4,rfl⟩
 refine wpV_of0 hDe ?_
 by_cases hil:i < l.length
 ·have hil':(i:Int) < l.length:=by omega
  have hg:=getD_stV hil
  have hrl:(rowsL (l.take i)).length=i:=by simp [rowsL]; omega
  have hsb:=hs _ (mem_getD st0 hil)
  have htk:rowsL (l.take (i+1))=rowsL (l.take i)++[((l.getD i st0),.rows none ((l.getD i st0).head.map fV),.rows none ((l.getD i st0).got.map fV))]:=by rw [take_st hil]; simp [rowsL]
  have hp:=xsC_put (ls:=rowsL (l.take i)++List.replicate (l.length - (rowsL (l.take i)).length) xs0) (i:=(rowsL (l.take i)).length) ((l.getD i st0),.rows none ((l.getD i st0).head.map fV),.rows none ((l.getD i st0).got.map fV)) (by simp; omega)
  rw [app_rep_set _ (by omega),←htk,hrl] at hp
  have hfl:=xsC_len (rowsL (l.take i)++List.replicate (l.length - (rowsL (l.take i)).length) xs0)
  rw [List.length_append,List.length_replicate,hrl] at hfl
  try rw [hrl] at hp
  try rw [hrl] at hfl
  try rw [hrl]
  generalize l.getD i st0=s at *
  generalize xsC (rowsL (l.take i)++List.replicate (l.length - i) xs0)=C at *
  simp -implicitDefEqProofs (maxSteps:=1000000) (disch:=omega) only [push_cast,simprocAttr,h0,h3,h4,hil',hg,↓gd]
  repeat refine And.intro (by omega) ?_
  refine ((toStream_R s hsb _).as (by rfl)).to ?_
  have hp':splice C (i * 12) (strC s)=xsC (rowsL (l.take (i+1))++List.replicate (l.length - (rowsL (l.take (i+1))).length) xs0):=hp
  rw [strC_eq] at hp'
  simp -implicitDefEqProofs (maxSteps:=1000000) (disch:=omega) only [push_cast,simprocAttr,h0,h3,h4,hp',↓gd]
  repeat refine And.intro (by omega) ?_
  exact ⟨l.length - (i+1),by omega,i+1,rfl,by omega,by simp,by simp⟩
 ·have:i=l.length:=by omega
  subst this
  have hil':¬((l.length:Nat):Int) < l.length:=by omega
  have hrl:(rowsL l).length=l.length:=by simp [rowsL]
  simp -implicitDefEqProofs (maxSteps:=1000000) (disch:=omega) only [push_cast,simprocAttr,h0,h3,h4,hil',↓gd]
  rw [List.take_length,hrl,Nat.sub_self,List.replicate_zero,List.append_nil,rowsL_c]
  exact ⟨_,_,Wk.refl _ _ _,rfl,rfl⟩
structure SsNew (S:List Blk) (l:List St) (b:Nat) (ls:List XS) (S':List Blk):Prop where
 strs:ls.map Prod.fst=l
 kb:S'[b]?=some (.cells 12 (xsC ls))
 own:OwnL S' ls
 lt:(fb ls).Pairwise (· < ·)
 lo:∀p ∈ fb ls,S.length≤p
 hb:S.length≤b
 upd:Upd [] S S'
theorem toStreamS_O (l:List St) (hs:∀s ∈ l,StB s) (hl:l.length≤2000000) (S:List Blk):VCall Tryz.prog 18 [.rows none (l.map stV)] S fun r S'=>∃b ls,r=.heap b l.length∧SsNew S l b ls S':=by
 have hz:(List.replicate l.length [V.int .i64 0,V.int .i64 0,V.nils,V.str [],V.bool false,V.bool false,V.int .i64 0,V.nils,V.str [],V.bool false,V.int .i64 0,V.int .i64 0]).flatten=xsC ([]++List.replicate (l.length - ([]:List XS).length) xs0):=rep_cells xsF xs0 _ rfl _
 refine VCall.en hDe Tryz.func18 Tryz.ntmps18 Tryz.results18 ?_
 simp -implicitDefEqProofs (maxSteps:=1000000) (disch:=omega) only [push_cast,simprocAttr,↓gd]
 repeat refine And.intro (by omega) ?_
 refine wpV_loop (fun m t S'=>∃(i:Nat) (hs:List XS),m=l.length - i∧i≤l.length∧t 0=.rows none (l.map stV)∧t 3=.heap S.length l.length∧t 4=.int .i64 i∧hs.map Prod.fst=l.take i∧S'[S.length]?=some (.cells 12 (xsC (hs++List.replicate (l.length - hs.length) xs0)))∧OwnL S' hs∧(fb hs).Pairwise (· < ·)∧(∀p ∈ fb hs,S.length≤p)∧Upd [] S S') l.length
  ⟨0,[],by omega,by omega,rfl,rfl,rfl,rfl,?_,(fun x hx=>by cases hx),by simp [fb],(fun p hp=>by simp [fb] at hp),(Upd.refl _ _).app _⟩ ?_
 ·rw [←hz,app_get0]; rfl
 rintro m t S' ⟨i,hs',rfl,hi,h0,h3,h4,hfs,kb,hown,hlt,hlo,hu⟩
 refine wpV_of0 hDe ?_
 have hrl:hs'.length=i:=by have:=congrArg List.length hfs; rw [List.length_map,List.length_take] at this; omega
 by_cases hil:i < l.length
 ·have hil':(i:Int) < l.length:=by omega
  have hg:=getD_stV hil
  have hsb:=hs _ (mem_getD st0 hil)
  have htk:=take_st hil
  generalize l.getD i st0=s at *
  simp -implicitDefEqProofs (maxSteps:=1000000) (disch:=omega) only [push_cast,simprocAttr,h0,h3,h4,hil',hg,↓gd]
  repeat refine And.intro (by omega) ?_
  refine ((toStream_O s hsb _).as (by rfl)).mono ?_
  rintro r S1 ⟨p,q,rfl,hp1,hq1,hpl,hpq,hu1⟩
  have kb1:=hu1.get kb (by simp)
  have lb1:=lt_of_some kb1
  have lq1:=lt_of_some hq1
  have hput:=xsC_put (ls:=hs'++List.replicate (l.length - hs'.length) xs0) (i:=hs'.length) (s,V.heap p s.head.length,V.heap q s.got.length) (by simp; omega)
  rw [app_rep_set _ (by omega),hrl] at hput
  have hfl:=xsC_len (hs'++List.replicate (l.length - hs'.length) xs0)
  rw [List.length_append,List.length_replicate,hrl] at hfl
  try rw [hrl] at kb1
  have hlt':=hown.lt
  have hown1:=hown.to (S':=S1) (fun p cs hp=>hu1.get hp (by simp))
  try rw [hrl] at hlt'
  generalize xsC (hs'++List.replicate (l.length - i) xs0)=C at *
  have hput':splice C (i * 12) (strX s (.heap p s.head.length) (.heap q s.got.length))=xsC ((hs'++[(s,V.heap p s.head.length,V.heap q s.got.length)])++List.replicate (l.length - (hs'++[(s,V.heap p s.head.length,V.heap q s.got.length)]).length) xs0):=hput
  rw [strX_eq] at hput'
  simp -implicitDefEqProofs (maxSteps:=1000000) (disch:=omega) only [push_cast,simprocAttr,h0,h3,h4,kb1,hput',↓gd]
  repeat refine And.intro (by omega) ?_
  have hS:∀(B:Blk) (j n:Nat) (cs:List V),n≠12→S1[j]?=some (.cells n cs)→(S1.set S.length B)[j]?=some (.cells n cs):=fun B j n cs hn hj=>by
   have hne:S.length≠j:=by rintro rfl; rw [kb1] at hj; cases hj; exact hn rfl
   rw [List.getElem?_set_ne hne]; exact hj
  refine ⟨l.length - (i+1),by omega,i+1,hs'++[(s,V.heap p s.head.length,V.heap q s.got.length)],rfl,by omega,by simp,by rw [List.map_append,hfs,htk]; rfl,?_,?_,?_,?_,(hu.trans hu1).set _ (.inl (Nat.le_refl _))⟩
  ·simp
  ·refine (hown1.to (fun p cs hp=>hS _ p 3 cs (by decide) hp)).app (fun x hx=>?_)
   rw [List.mem_singleton.1 hx]
   exact ⟨⟨_,rfl,hS _ _ 3 _ (by decide) hp1⟩,⟨_,rfl,hS _ _ 3 _ (by decide) hq1⟩⟩
  ·rw [fb_app]
   exact pair_snoc2 hlt (fun x hx=>by have:=hown.lt x hx; show x < p; omega) hpq
  ·intro z hz
   rw [fb_app] at hz
   have:=hu.1
   rcases List.mem_append.1 hz with hz | hz
   ·exact hlo z hz
   ·simp only [fb,xb,List.flatMap_cons,List.flatMap_nil,List.mem_append,List.mem_cons,List.not_mem_nil,or_false] at hz
    omega
 ·have:i=l.length:=by omega
  subst this
  have hil':¬((l.length:Nat):Int) < l.length:=by omega
  rw [hrl,Nat.sub_self,List.replicate_zero,List.append_nil] at kb
  rw [List.take_length] at hfs
  simp -implicitDefEqProofs (maxSteps:=1000000) (disch:=omega) only [push_cast,simprocAttr,h0,h3,h4,hil',↓gd]
  exact ⟨_,_,Wk.refl _ _ _,S.length,hs',rfl,⟨hfs,kb,hown,hlt,hlo,Nat.le_refl _,hu⟩⟩
theorem toEnd_R (e:En) (he:EnB e) (S:List Blk):VCall Tryz.prog 6 [erV e] S fun r S'=>RNew S e r S':=by
 have h1:=he.len
 have h2:=he.wait
 refine VCall.en hDe Tryz.func6 Tryz.ntmps6 Tryz.results6 ?_
 simp -implicitDefEqProofs (maxSteps:=1000000) (disch:=omega) only [push_cast,simprocAttr,↓gd]
 refine ((toTable_R e.out e.outM he.out _).as (by rfl)).to ?_
 simp -implicitDefEqProofs (maxSteps:=1000000) (disch:=omega) only [push_cast,simprocAttr,↓gd]
 refine ((toTable_R e.inn e.innM he.inn _).as (by rfl)).to ?_
 simp -implicitDefEqProofs (maxSteps:=1000000) (disch:=omega) only [push_cast,simprocAttr,↓gd]
 refine ((toStreamS_R e.strs he.sts (by omega) _).as (by rfl)).to ?_
 simp -implicitDefEqProofs (maxSteps:=1000000) (disch:=omega) only [push_cast,simprocAttr,↓gd]
 refine ((toFlow_ok e.send e.room _).as (by rfl)).to ?_
 simp -implicitDefEqProofs (maxSteps:=1000000) (disch:=omega) only [push_cast,simprocAttr,↓gd]
 refine ((toFrameS_O e.wait (by omega) _).as (by rfl)).to ?_
 simp -implicitDefEqProofs (maxSteps:=1000000) (disch:=omega) only [push_cast,simprocAttr,↓gd]
 exact ⟨_,_,Wk.refl _ _ _,S.length+3,S.length+4,rfl,⟨⟨by simp -implicitDefEqProofs (maxSteps:=1000000) (disch:=omega) only [push_cast,simprocAttr,↓gd],by simp -implicitDefEqProofs (maxSteps:=1000000) (disch:=omega) only [push_cast,simprocAttr,↓gd]⟩,by omega,by omega,(Upd.refl _ _).app _⟩⟩
theorem toEnd_O (e:En) (he:EnB e) (S:List Blk):VCall Tryz.prog 6 [erV e] S fun r S'=>ONew S e r S':=by
 have h1:=he.len
 have h2:=he.wait
 refine VCall.en hDe Tryz.func6 Tryz.ntmps6 Tryz.results6 ?_
 simp -implicitDefEqProofs (maxSteps:=1000000) (disch:=omega) only [push_cast,simprocAttr,↓gd]
 refine ((toTable_O e.out e.outM he.out _).as (by rfl)).mono ?_
 rintro r Sa ⟨po,rfl,ho1,ho2,ho3⟩
 have a0:=ho3.get (j:=S.length) (B:=.cells 0 (erC e)) (by simp -implicitDefEqProofs (maxSteps:=1000000) (disch:=omega) only [push_cast,simprocAttr,↓gd]) (by simp)
 have a1:=ho3.get (j:=S.length+1) (B:=.cells 0 zE) (by simp -implicitDefEqProofs (maxSteps:=1000000) (disch:=omega) only [push_cast,simprocAttr,↓gd]) (by simp)
 have a2:=ho3.get (j:=S.length+2) (B:=.cells 0 [V.bool e.ans,.nils,.int .i64 0,.nils,.int .i64 0,.str [],.nils,.int .i64 0,.int .i64 0,.nils,.bool false]) (by simp -implicitDefEqProofs (maxSteps:=1000000) (disch:=omega) only [push_cast,simprocAttr,↓gd]) (by simp)
 have la0:=lt_of_some a0
 have la1:=lt_of_some a1
 have la2:=lt_of_some a2
 have lpo:=lt_of_some ho1
 simp only [List.length_append,List.length_cons,List.length_nil] at ho2
 have hua:Upd [] S Sa:=((Upd.refl [] S).app _).trans ho3
 simp -implicitDefEqProofs (maxSteps:=1000000) (disch:=omega) only [push_cast,simprocAttr,a0,a2,↓gd]
 refine ((toTable_O e.inn e.innM he.inn _).as (by rfl)).mono ?_
 rintro r Sb ⟨pi,rfl,hi1,hi2,hi3⟩
 have b0:=hi3.get (j:=S.length) (B:=.cells 0 (erC e)) (by simp -implicitDefEqProofs (maxSteps:=1000000) (disch:=omega) only [push_cast,simprocAttr,a0,↓gd]) (by simp)
 have b1:=hi3.get (j:=S.length+1) (B:=.cells 0 zE) (by simp -implicitDefEqProofs (maxSteps:=1000000) (disch:=omega) only [push_cast,simprocAttr,a1,↓gd]) (by simp)
 have b2:=hi3.get (j:=S.length+2) (B:=.cells 0 [V.bool e.ans,.heap po e.out.length,.int .i64 e.outM,.nils,.int .i64 0,.str [],.nils,.int .i64 0,.int .i64 0,.nils,.bool false]) (by simp -implicitDefEqProofs (maxSteps:=1000000) (disch:=omega) only [push_cast,simprocAttr,a2,↓gd]) (by simp)
 have bo:=hi3.get (j:=po) (B:=.cells 3 (fcs e.out)) (by rw [List.getElem?_set_ne (by omega)]; exact ho1) (by simp)
 have lb0:=lt_of_some b0
 have lb1:=lt_of_some b1
 have lb2:=lt_of_some b2
 have lpi:=lt_of_some hi1
 rw [List.length_set] at hi2
 have hub:Upd [] S Sb:=(hua.set _ (.inl (by omega))).trans hi3
 simp -implicitDefEqProofs (maxSteps:=1000000) (disch:=omega) only [push_cast,simprocAttr,b0,b2,↓gd]
 refine ((toStreamS_O e.strs he.sts (by omega) _).as (by rfl)).mono ?_
 rintro r Sc ⟨b,ls,rfl,hq⟩
 have c0:=hq.upd.get (j:=S.length) (B:=.cells 0 (erC e)) (by simp -implicitDefEqProofs (maxSteps:=1000000) (disch:=omega) only [push_cast,simprocAttr,b0,↓gd]) (by simp)
 have c1:=hq.upd.get (j:=S.length+1) (B:=.cells 0 zE) (by simp -implicitDefEqProofs (maxSteps:=1000000) (disch:=omega) only [push_cast,simprocAttr,b1,↓gd]) (by simp)
 have c2:=hq.upd.get (j:=S.length+2) (B:=.cells 0 [V.bool e.ans,.heap po e.out.length,.int .i64 e.outM,.heap pi e.inn.length,.int .i64 e.innM,.str e.came,.nils,.int .i64 0,.int .i64 0,.nils,.bool false]) (by simp -implicitDefEqProofs (maxSteps:=1000000) (disch:=omega) only [push_cast,simprocAttr,b2,↓gd]) (by simp)
 have co:=hq.upd.get (j:=po) (B:=.cells 3 (fcs e.out)) (by simp only [List.getElem?_set_ne (show S.length+2≠po by omega)]; exact bo) (by simp)
 have ci:=hq.upd.get (j:=pi) (B:=.cells 3 (fcs e.inn)) (by simp only [List.getElem?_set_ne (show S.length+2≠pi by omega)]; exact hi1) (by simp)
 have lc0:=lt_of_some c0
 have lc1:=lt_of_some c1
 have lc2:=lt_of_some c2
 have hqb:=hq.hb
 have hqlo:=hq.lo
 simp only [List.length_set] at hqb hqlo
 have huc:Upd [] S Sc:=(hub.set _ (.inl (by omega))).trans hq.upd
 simp -implicitDefEqProofs (maxSteps:=1000000) (disch:=omega) only [push_cast,simprocAttr,c0,c2,↓gd]
 refine ((toFlow_ok e.send e.room _).as (by rfl)).to ?_
 simp -implicitDefEqProofs (maxSteps:=1000000) (disch:=omega) only [push_cast,simprocAttr,c0,c1,c2,↓gd]
 refine ((toFrameS_O e.wait (by omega) _).as (by rfl)).to ?_
 simp -implicitDefEqProofs (maxSteps:=1000000) (disch:=omega) only [push_cast,simprocAttr,c0,c1,c2,↓gd]
 have hk:∀(A B:Blk) (X:List Blk) (p n:Nat) (cs:List V),n≠0→Sc[p]?=some (.cells n cs)→((Sc.set (S.length+2) A).set (S.length+1) B++X)[p]?=some (.cells n cs):=fun A B X p n cs hn hp=>by
  have lp:=lt_of_some hp
  have g2:S.length+2≠p:=by rintro rfl; rw [c2] at hp; cases hp; exact hn rfl
  have g1:S.length+1≠p:=by rintro rfl; rw [c1] at hp; cases hp; exact hn rfl
  rw [List.getElem?_append_left (by simpa using lp),List.getElem?_set_ne g1,List.getElem?_set_ne g2]
  exact hp
 have hl2:=hq.upd.1
 simp only [List.length_set] at hl2
 refine ⟨_,_,Wk.refl _ _ _,po,pi,b,Sc.length,ls,rfl,⟨hq.strs,hk _ _ _ _ _ _ (by decide) hq.kb,?_,hk _ _ _ _ _ _ (by decide) co,hk _ _ _ _ _ _ (by decide) ci,hq.own.to (fun p cs hp=>hk _ _ _ p 3 cs (by decide) hp),?_,?_,by omega,by omega,((huc.set _ (.inl (by omega))).set _ (.inl (by omega))).app _⟩⟩
 ·rw [List.getElem?_append_right (by simp)]
  simp
 ·refine List.pairwise_cons.2 ⟨fun x hx=>?_,List.pairwise_cons.2 ⟨fun x hx=>?_,hq.lt⟩⟩
  ·rcases List.mem_cons.1 hx with rfl | hx
   ·omega
   ·have:=hqlo x hx; omega
  ·have:=hqlo x hx; omega
 ·intro x hx
  rcases List.mem_cons.1 hx with rfl | hx
  ·omega
  ·rcases List.mem_cons.1 hx with rfl | hx
   ·omega
   ·have:=hqlo x hx; omega
end
end Go.Proofs.YtldogccmhncnoaaGreat
