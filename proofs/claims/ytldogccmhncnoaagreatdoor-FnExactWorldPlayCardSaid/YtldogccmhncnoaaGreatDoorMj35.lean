/- A part of the proof: contracts of functions, or plain facts on which these lean. -/
import Derived.Test.YtldogccmhncnoaaGreatDoorMj28
import Derived.Test.YtldogccmhncnoaaGreatDoorMj31
import Derived.Test.YtldogccmhncnoaaGreatDoorMj34
namespace Go.Proofs.YtldogccmhncnoaaGreatDoor
open Go
set_option linter.unusedVariables false
set_option linter.unusedSimpArgs false
set_option maxRecDepth 100000
set_option maxHeartbeats 16000000

section
open Go
theorem mem_getD {α:Type} (d:α) {l:List α} {i:Nat} (h:i < l.length):l.getD i d ∈ l:=by
 rw [List.getD_eq_getElem?_getD,List.getElem?_eq_getElem h]; exact List.getElem_mem h
theorem getD_frV {l:List Fr} {i:Nat} (h:i < l.length):(l.map frV).getD i .junk=frV (l.getD i fr0):=by
 rw [List.getD_eq_getElem?_getD,List.getElem?_map,List.getElem?_eq_getElem h,List.getD_eq_getElem?_getD,List.getElem?_eq_getElem h]; rfl
theorem getD_stV {l:List St} {i:Nat} (h:i < l.length):(l.map stV).getD i .junk=stV (l.getD i st0):=by
 rw [List.getD_eq_getElem?_getD,List.getElem?_map,List.getElem?_eq_getElem h,List.getD_eq_getElem?_getD,List.getElem?_eq_getElem h]; rfl
@[push_cast] theorem all_evV_len (l:List Ev):(l.map evV).all (lenIs 5)=true:=by
 rw [List.all_eq_true]; intro v hv; obtain ⟨f,_,rfl⟩:=List.mem_map.1 hv; rfl
@[push_cast] theorem all_frV_len (l:List Fr):(l.map frV).all (lenIs 4)=true:=by
 rw [List.all_eq_true]; intro v hv; obtain ⟨f,_,rfl⟩:=List.mem_map.1 hv; rfl
@[push_cast] theorem all_stV_len (l:List St):(l.map stV).all (lenIs 12)=true:=by
 rw [List.all_eq_true]; intro v hv; obtain ⟨f,_,rfl⟩:=List.mem_map.1 hv; rfl
theorem eqField_self (f:Fd) (hz:True) (S:List Blk):VCall Tryz.prog 131 [fV f,fV f] S fun r S'=>r=.bool true∧S'=S:=by
 refine VCall.en hD Tryz.func131 Tryz.ntmps131 Tryz.results131 ?_
 simp -implicitDefEqProofs (maxSteps:=1000000) (disch:=omega) only [push_cast,simprocAttr,decide_true,Bool.and_self,↓gd]
 exact fin1 (.bool _) rfl
theorem eqFieldS_self (a:List Fd) (hz:∀f ∈ a,True) (ha:a.length≤2000000) (S:List Blk):VCall Tryz.prog 95 [.rows none (a.map fV),.rows none (a.map fV)] S fun r S'=>r=.bool true∧S'=S:=by
 refine VCall.ex hD (fun _=>false) (fun id=>if id=6 then [8,8,8,8,8,8,8,8,10,10] else []) Tryz.func95 Tryz.ntmps95 Tryz.results95 ?_
 simp -implicitDefEqProofs (maxSteps:=1000000) (disch:=omega) only [push_cast,simprocAttr,↓gd]
 refine wpV_loop (fun m t S'=>∃i:Nat,m=a.length - i∧i≤a.length∧t 0=.rows none (a.map fV)∧t 1=.rows none (a.map fV)∧t 5=.int .i64 i∧S'=S) a.length ⟨0,by omega,by omega,rfl,rfl,rfl,rfl⟩ ?_
 rintro m t S' ⟨i,rfl,hi,h0,h1,h5,rfl⟩
 refine wpV_of hD (fun _=>false) (fun id=>if id=6 then [8,8,8,8,8,8,8,8,10,10] else []) (by kernel_rfl) ?_
 by_cases hil:i < a.length
 ·have hil':(i:Int) < a.length:=by omega
  have hg:=getD_fV hil
  have hzz:=hz _ (mem_getD fd0 hil)
  generalize a.getD i fd0=f at *
  simp -implicitDefEqProofs (maxSteps:=1000000) (disch:=omega) only [push_cast,simprocAttr,h0,h1,h5,hil',hg,↓gd]
  repeat refine And.intro (by omega) ?_
  refine ((eqField_self f hzz _).as (by rfl)).to ?_
  simp -implicitDefEqProofs (maxSteps:=1000000) (disch:=omega) only [push_cast,simprocAttr,h0,h1,h5,↓gd]
  exact ⟨a.length - (i+1),by omega,i+1,rfl,by omega,by simp⟩
 ·have:i=a.length:=by omega
  subst this
  have hil':¬((a.length:Nat):Int) < a.length:=by omega
  simp -implicitDefEqProofs (maxSteps:=1000000) (disch:=omega) only [push_cast,simprocAttr,h0,h1,h5,hil',↓gd]
  exact fin0 rfl
theorem eqTable_self (a:List Fd) (m:Int) (ha:a.length≤2000000) (S:List Blk):VCall Tryz.prog 45 [tV a m,tV a m] S fun r S'=>r=.bool true∧S'=S:=by
 refine VCall.en hD Tryz.func45 Tryz.ntmps45 Tryz.results45 ?_
 simp -implicitDefEqProofs (maxSteps:=1000000) (disch:=omega) only [push_cast,simprocAttr,↓gd]
 refine ((eqFieldS_self a (fun _ _=>trivial) ha _).as rfl).to ?_
 simp -implicitDefEqProofs (maxSteps:=1000000) (disch:=omega) only [push_cast,simprocAttr,↓gd]
 exact fin1 (.bool _) rfl
theorem eqFrame_self (f:Fr) (hz:True) (S:List Blk):VCall Tryz.prog 97 [frV f,frV f] S fun r S'=>r=.bool true∧S'=S:=by
 refine VCall.en hD Tryz.func97 Tryz.ntmps97 Tryz.results97 ?_
 simp -implicitDefEqProofs (maxSteps:=1000000) (disch:=omega) only [push_cast,simprocAttr,decide_true,Bool.and_self,↓gd]
 exact fin1 (.bool _) rfl
theorem eqFrameS_self (a:List Fr) (hz:∀f ∈ a,True) (ha:a.length≤2000000) (S:List Blk):VCall Tryz.prog 48 [.rows none (a.map frV),.rows none (a.map frV)] S fun r S'=>r=.bool true∧S'=S:=by
 refine VCall.ex hD (fun _=>false) (fun id=>if id=6 then [8,8,8,8,8,8,8,8,10,10] else []) Tryz.func48 Tryz.ntmps48 Tryz.results48 ?_
 simp -implicitDefEqProofs (maxSteps:=1000000) (disch:=omega) only [push_cast,simprocAttr,↓gd]
 refine wpV_loop (fun m t S'=>∃i:Nat,m=a.length - i∧i≤a.length∧t 0=.rows none (a.map frV)∧t 1=.rows none (a.map frV)∧t 5=.int .i64 i∧S'=S) a.length ⟨0,by omega,by omega,rfl,rfl,rfl,rfl⟩ ?_
 rintro m t S' ⟨i,rfl,hi,h0,h1,h5,rfl⟩
 refine wpV_of hD (fun _=>false) (fun id=>if id=6 then [8,8,8,8,8,8,8,8,10,10] else []) (by kernel_rfl) ?_
 by_cases hil:i < a.length
 ·have hil':(i:Int) < a.length:=by omega
  have hg:=getD_frV hil
  have hzz:=hz _ (mem_getD fr0 hil)
  generalize a.getD i fr0=f at *
  simp -implicitDefEqProofs (maxSteps:=1000000) (disch:=omega) only [push_cast,simprocAttr,h0,h1,h5,hil',hg,↓gd]
  repeat refine And.intro (by omega) ?_
  refine ((eqFrame_self f hzz _).as (by rfl)).to ?_
  simp -implicitDefEqProofs (maxSteps:=1000000) (disch:=omega) only [push_cast,simprocAttr,h0,h1,h5,↓gd]
  exact ⟨a.length - (i+1),by omega,i+1,rfl,by omega,by simp⟩
 ·have:i=a.length:=by omega
  subst this
  have hil':¬((a.length:Nat):Int) < a.length:=by omega
  simp -implicitDefEqProofs (maxSteps:=1000000) (disch:=omega) only [push_cast,simprocAttr,h0,h1,h5,hil',↓gd]
  exact fin0 rfl
theorem eqFlow_self (s q:Int) (S:List Blk):VCall Tryz.prog 47 [.agg [.int .i64 s,.int .i64 q],.agg [.int .i64 s,.int .i64 q]] S fun r S'=>r=.bool true∧S'=S:=by
 refine VCall.en hD Tryz.func47 Tryz.ntmps47 Tryz.results47 ?_
 simp -implicitDefEqProofs (maxSteps:=1000000) (disch:=omega) only [push_cast,simprocAttr,decide_true,Bool.and_self,↓gd]
 exact fin1 (.bool _) rfl
theorem eqStream_self (s:St) (hb:StB s) (S:List Blk):VCall Tryz.prog 96 [stV s,stV s] S fun r S'=>r=.bool true∧S'=S:=by
 have h1:=hb.head.1
 have h2:=hb.got.1
 refine VCall.en hD Tryz.func96 Tryz.ntmps96 Tryz.results96 ?_
 simp -implicitDefEqProofs (maxSteps:=1000000) (disch:=omega) only [push_cast,simprocAttr,decide_true,Bool.and_self,↓gd]
 refine ((eqFieldS_self s.head (fun _ _=>trivial) h1 _).as rfl).to ?_
 simp -implicitDefEqProofs (maxSteps:=1000000) (disch:=omega) only [push_cast,simprocAttr,↓gd]
 refine ((eqFieldS_self s.got (fun _ _=>trivial) h2 _).as rfl).to ?_
 simp -implicitDefEqProofs (maxSteps:=1000000) (disch:=omega) only [push_cast,simprocAttr,↓gd]
 refine ((eqFlow_self s.send s.room _).as rfl).to ?_
 simp -implicitDefEqProofs (maxSteps:=1000000) (disch:=omega) only [push_cast,simprocAttr,↓gd]
 exact fin1 (.bool _) rfl
theorem eqStreamS_self (a:List St) (hz:∀f ∈ a,StB f) (ha:a.length≤2000000) (S:List Blk):VCall Tryz.prog 46 [.rows none (a.map stV),.rows none (a.map stV)] S fun r S'=>r=.bool true∧S'=S:=by
 refine VCall.ex hD (fun _=>false) (fun id=>if id=6 then [8,8,8,8,8,8,8,8,10,10] else []) Tryz.func46 Tryz.ntmps46 Tryz.results46 ?_
 simp -implicitDefEqProofs (maxSteps:=1000000) (disch:=omega) only [push_cast,simprocAttr,↓gd]
 refine wpV_loop (fun m t S'=>∃i:Nat,m=a.length - i∧i≤a.length∧t 0=.rows none (a.map stV)∧t 1=.rows none (a.map stV)∧t 5=.int .i64 i∧S'=S) a.length ⟨0,by omega,by omega,rfl,rfl,rfl,rfl⟩ ?_
 rintro m t S' ⟨i,rfl,hi,h0,h1,h5,rfl⟩
 refine wpV_of hD (fun _=>false) (fun id=>if id=6 then [8,8,8,8,8,8,8,8,10,10] else []) (by kernel_rfl) ?_
 by_cases hil:i < a.length
 ·have hil':(i:Int) < a.length:=by omega
  have hg:=getD_stV hil
  have hzz:=hz _ (mem_getD st0 hil)
  generalize a.getD i st0=f at *
  simp -implicitDefEqProofs (maxSteps:=1000000) (disch:=omega) only [push_cast,simprocAttr,h0,h1,h5,hil',hg,↓gd]
  repeat refine And.intro (by omega) ?_
  refine ((eqStream_self f hzz _).as (by rfl)).to ?_
  simp -implicitDefEqProofs (maxSteps:=1000000) (disch:=omega) only [push_cast,simprocAttr,h0,h1,h5,↓gd]
  exact ⟨a.length - (i+1),by omega,i+1,rfl,by omega,by simp⟩
 ·have:i=a.length:=by omega
  subst this
  have hil':¬((a.length:Nat):Int) < a.length:=by omega
  simp -implicitDefEqProofs (maxSteps:=1000000) (disch:=omega) only [push_cast,simprocAttr,h0,h1,h5,hil',↓gd]
  exact fin0 rfl
theorem eqEnd_self (e:En) (hb:EnB e) (S:List Blk):VCall Tryz.prog 11 [erV e,erV e] S fun r S'=>r=.bool true∧S'=S:=by
 have h1:=hb.out.1
 have h2:=hb.inn.1
 have h3:=hb.len
 have h4:=hb.wait
 refine VCall.en hD Tryz.func11 Tryz.ntmps11 Tryz.results11 ?_
 simp -implicitDefEqProofs (maxSteps:=1000000) (disch:=omega) only [push_cast,simprocAttr,decide_true,Bool.and_self,↓gd]
 refine ((eqTable_self e.out e.outM h1 _).as rfl).to ?_
 simp -implicitDefEqProofs (maxSteps:=1000000) (disch:=omega) only [push_cast,simprocAttr,↓gd]
 refine ((eqTable_self e.inn e.innM h2 _).as rfl).to ?_
 simp -implicitDefEqProofs (maxSteps:=1000000) (disch:=omega) only [push_cast,simprocAttr,↓gd]
 refine ((eqStreamS_self e.strs hb.sts (by omega) _).as rfl).to ?_
 simp -implicitDefEqProofs (maxSteps:=1000000) (disch:=omega) only [push_cast,simprocAttr,↓gd]
 refine ((eqFlow_self e.send e.room _).as rfl).to ?_
 simp -implicitDefEqProofs (maxSteps:=1000000) (disch:=omega) only [push_cast,simprocAttr,↓gd]
 refine ((eqFrameS_self e.wait (fun _ _=>trivial) (by omega) _).as rfl).to ?_
 simp -implicitDefEqProofs (maxSteps:=1000000) (disch:=omega) only [push_cast,simprocAttr,↓gd]
 exact fin1 (.bool _) rfl
theorem eqWorld_self (w:Wo) (hb:WoB w) (S:List Blk):VCall Tryz.prog 20 [worV w,worV w] S fun r S'=>r=.bool true∧S'=S:=by
 refine VCall.en hD Tryz.func20 Tryz.ntmps20 Tryz.results20 ?_
 simp -implicitDefEqProofs (maxSteps:=1000000) (disch:=omega) only [push_cast,simprocAttr,decide_true,Bool.and_self,↓gd]
 refine ((eqEnd_self w.caller hb.caller _).as rfl).to ?_
 simp -implicitDefEqProofs (maxSteps:=1000000) (disch:=omega) only [push_cast,simprocAttr,↓gd]
 refine ((eqEnd_self w.answerer hb.answerer _).as rfl).to ?_
 simp -implicitDefEqProofs (maxSteps:=1000000) (disch:=omega) only [push_cast,simprocAttr,↓gd]
 exact fin1 (.bool _) rfl
theorem eqEvent_self (f:Ev) (hz:True) (S:List Blk):VCall Tryz.prog 67 [evV f,evV f] S fun r S'=>r=.bool true∧S'=S:=by
 refine VCall.en hD Tryz.func67 Tryz.ntmps67 Tryz.results67 ?_
 simp -implicitDefEqProofs (maxSteps:=1000000) (disch:=omega) only [push_cast,simprocAttr,decide_true,Bool.and_self,↓gd]
 exact fin1 (.bool _) rfl
theorem eqEventS_self (a:List Ev) (hz:∀f ∈ a,True) (ha:a.length≤2000000) (S:List Blk):VCall Tryz.prog 29 [.rows none (a.map evV),.rows none (a.map evV)] S fun r S'=>r=.bool true∧S'=S:=by
 refine VCall.ex hD (fun _=>false) (fun id=>if id=6 then [8,8,8,8,8,8,8,8,10,10] else []) Tryz.func29 Tryz.ntmps29 Tryz.results29 ?_
 simp -implicitDefEqProofs (maxSteps:=1000000) (disch:=omega) only [push_cast,simprocAttr,↓gd]
 refine wpV_loop (fun m t S'=>∃i:Nat,m=a.length - i∧i≤a.length∧t 0=.rows none (a.map evV)∧t 1=.rows none (a.map evV)∧t 5=.int .i64 i∧S'=S) a.length ⟨0,by omega,by omega,rfl,rfl,rfl,rfl⟩ ?_
 rintro m t S' ⟨i,rfl,hi,h0,h1,h5,rfl⟩
 refine wpV_of hD (fun _=>false) (fun id=>if id=6 then [8,8,8,8,8,8,8,8,10,10] else []) (by kernel_rfl) ?_
 by_cases hil:i < a.length
 ·have hil':(i:Int) < a.length:=by omega
  have hg:=getD_evV hil
  have hzz:=hz _ (mem_getD ev0 hil)
  generalize a.getD i ev0=f at *
  simp -implicitDefEqProofs (maxSteps:=1000000) (disch:=omega) only [push_cast,simprocAttr,h0,h1,h5,hil',hg,↓gd]
  repeat refine And.intro (by omega) ?_
  refine ((eqEvent_self f hzz _).as (by rfl)).to ?_
  simp -implicitDefEqProofs (maxSteps:=1000000) (disch:=omega) only [push_cast,simprocAttr,h0,h1,h5,↓gd]
  exact ⟨a.length - (i+1),by omega,i+1,rfl,by omega,by simp⟩
 ·have:i=a.length:=by omega
  subst this
  have hil':¬((a.length:Nat):Int) < a.length:=by omega
  simp -implicitDefEqProofs (maxSteps:=1000000) (disch:=omega) only [push_cast,simprocAttr,h0,h1,h5,hil',↓gd]
  exact fin0 rfl
end
section
open Go
theorem szEvent_ok (f:Ev) (hz:ZV f) (left:Int) (h0:0≤left) (h1:left≤1048576) (S:List Blk):VCall Tryz.prog 15 [evV f,.int .i64 left] S fun r S'=>r=.int .i64 (subN left (cV f))∧S'=S:=by
 obtain ⟨z1,z2⟩:=hz
 unfold mxL at *
 refine VCall.en hD Tryz.func15 Tryz.ntmps15 Tryz.results15 ?_
 by_cases g0:left - (f.path.length:Int) < 0
 ·simp -implicitDefEqProofs (maxSteps:=1000000) (disch:=omega) only [push_cast,simprocAttr,g0,↓gd]
  exact fin1 (.int _ _) (by rw [subN_no (by unfold cV; omega)])
 by_cases g1:left - (f.path.length:Int) - (f.text.length:Int) < 0
 ·simp -implicitDefEqProofs (maxSteps:=1000000) (disch:=omega) only [push_cast,simprocAttr,g0,g1,↓gd]
  exact fin1 (.int _ _) (by rw [subN_no (by unfold cV; omega)])
 simp -implicitDefEqProofs (maxSteps:=1000000) (disch:=omega) only [push_cast,simprocAttr,g0,g1,↓gd]
 exact fin1 (.int _ _) (by rw [subN_in (by unfold cV; omega)]; unfold cV; first | (congr 1; done) | (congr 1; omega))
theorem szEventS_ok (l:List Ev) (hz:ZL ZV l) (left:Int) (h0:0≤left) (h1:left≤1048576) (S:List Blk):VCall Tryz.prog 25 [.rows none (l.map evV),.int .i64 left] S fun r S'=>r=.int .i64 (subN left (cVs l))∧S'=S:=by
 obtain ⟨z1,z2⟩:=hz
 unfold mxL at z1
 refine VCall.en hD Tryz.func25 Tryz.ntmps25 Tryz.results25 ?_
 by_cases g:left - (l.length:Int) < 0
 ·simp -implicitDefEqProofs (maxSteps:=1000000) (disch:=omega) only [push_cast,simprocAttr,g,↓gd]
  exact fin0 (by rw [subN_no (by unfold cVs; omega)])
 simp -implicitDefEqProofs (maxSteps:=1000000) (disch:=omega) only [push_cast,simprocAttr,g,↓gd]
 refine wpV_loop (fun m t S'=>∃(i:Nat) (q:Int),m=l.length - i∧i≤l.length∧t 0=.rows none (l.map evV)∧t 1=.int .i64 q∧t 5=.int .i64 i∧q=left - (l.length:Int) - ((sumL cV (l.take i):Nat):Int)∧0≤q∧S'=S) l.length ⟨0,left - (l.length:Int),by omega,by omega,rfl,rfl,rfl,by simp [sumL],by omega,rfl⟩ ?_
 rintro m t S' ⟨i,q,rfl,hi,h0',h1',h5,hq,hle,rfl⟩
 refine wpV_of0 hD ?_
 by_cases hil:i < l.length
 ·have hil':(i:Int) < l.length:=by omega
  have hg:=getD_evV hil
  have hsn:=sumL_snoc (f:=cV) ev0 hil
  have hpt:=sumL_part (f:=cV) l (i+1)
  have hzf:=z2 _ (mem_getD ev0 hil)
  generalize l.getD i ev0=f at *
  have hcs:cVs l=l.length+sumL cV l:=rfl
  simp -implicitDefEqProofs (maxSteps:=1000000) (disch:=omega) only [push_cast,simprocAttr,h0',h1',h5,hil',hg,↓gd]
  repeat refine And.intro (by omega) ?_
  refine ((szEvent_ok f hzf q hle (by omega) _).as (by rfl)).to ?_
  by_cases hx:(cV f:Int)≤q
  ·rw [subN_in hx]
   have hn:¬(q - ((cV f:Nat):Int) < 0):=by omega
   simp -implicitDefEqProofs (maxSteps:=1000000) (disch:=omega) only [push_cast,simprocAttr,h0',h5,hn,↓gd]
   exact ⟨l.length - (i+1),by omega,i+1,q - ((cV f:Nat):Int),rfl,by omega,rfl,by simp,by rw [hsn]; omega,by omega⟩
  ·rw [subN_no hx]
   simp -implicitDefEqProofs (maxSteps:=1000000) (disch:=omega) only [push_cast,simprocAttr,↓gd]
   exact fin0 (by rw [subN_no (by omega)])
 ·have:i=l.length:=by omega
  subst this
  have hil':¬((l.length:Nat):Int) < l.length:=by omega
  rw [List.take_length] at hq
  have hcs:cVs l=l.length+sumL cV l:=rfl
  simp -implicitDefEqProofs (maxSteps:=1000000) (disch:=omega) only [push_cast,simprocAttr,h0',h1',h5,hil',↓gd]
  exact fin0 (by rw [subN_in (by omega)]; congr 1; omega)
end
section
open Go
theorem EndCall_X {e:En} (he:EnB e) (path text:List UInt8) (hp:path.length≤2000000) (ht:text.length≤2000000) {S:List Blk} {vo vi:V} {b c:Nat} {ls:List XS} (h:EnX S vo vi b c ls e):VCall Tryz.prog 103 [xV vo vi b c e,.str path,.str text] S fun r S' =>
  ∃v,r=.tup [v,.int .i64 (endCallM e path text).2.1,.bool (endCallM e path text).2.2]∧RNew S (endCallM e path text).1 v S':=by
 have hok:=fun X=>EndOk_X he (h.app X)
 have hcp:=fun X=>eclone_X he (h.app X)
 have vo1:=h.out.one
 have vi1:=h.inn.one
 have voe:=h.out.er
 have vie:=h.inn.er
 have voe1:=h.out.er1
 have vie1:=h.inn.er1
 have hel:=he.len
 refine VCall.en hDe Tryz.func103 Tryz.ntmps103 Tryz.results103 ?_
 simp -implicitDefEqProofs (disch:=omega) only [push_cast,simprocAttr,vo1,vi1,voe,vie,↓gd]
 refine ((hok _).as (by simp [xV,enX,voe,vie,voe1,vie1])).to ?_
 cases hE:endOk e
 ·rw [endCallM,if_pos hE]
  simp -implicitDefEqProofs (disch:=omega) only [push_cast,simprocAttr,↓gd]
  exact RNew.zeroT (by simp [Plain])
 have hW:=endOk_w hE
 have hsl:=stsOk_len hW.sts
 rw [endCallM,if_neg (by rw [hE]; simp)]
 simp -implicitDefEqProofs (disch:=omega) only [push_cast,simprocAttr,vo1,vi1,voe,vie,↓gd]
 refine ((hcp _).as (by simp [xV,enX,voe,vie,voe1,vie1])).mono ?_
 rintro r S1 ⟨b',c',rfl,hn⟩
 have k0:S1[S.length]?=some (.cells 0 (enX vo vi (.heap b e.strs.length) (.heap c e.wait.length) e)):=hn.upd.get (by simp -implicitDefEqProofs (disch:=omega) only [push_cast,simprocAttr,↓gd]) (by simp)
 have k1:S1[S.length+1]?=some (.cells 0 zE):=hn.upd.get (by simp -implicitDefEqProofs (disch:=omega) only [push_cast,simprocAttr,↓gd]) (by simp)
 have l0:=lt_of_some k0
 have l1:=lt_of_some k1
 have hx:=hn.app
 have hb1:=hn.hb; have hc1:=hn.hc
 simp at hb1 hc1
 have done:∀X,∃r S2,Wk S (.tup [eV b' c' e,.int .i64 0,.bool false]) (S1.set (S.length+1) (.cells 0 (enC (.heap b' e.strs.length) (.heap c' e.wait.length) e))++X) r S2∧∃v,r=.tup [v,.int .i64 0,.bool false]∧RNew S e v S2:=fun X =>
  ⟨_,_,Wk.refl _ _ _,_,rfl,b',c',rfl,(hx.set _ (by omega) (by omega) (by omega)).appR _⟩
 have hno:(e.ans=true∨2 * (e.strs.length:Int)+1 > 7∨headOk (callHead path text)=false∨wordOk text=false)→callM e path text=(e,0,false):=fun q=>by rw [callM,if_pos q]
 rcases Bool.eq_false_or_eq_true e.ans with ha | ha
 ·rw [hno (.inl ha)]
  simp -implicitDefEqProofs (disch:=omega) only [push_cast,simprocAttr,k0,k1,ha,↓gd]
  simpa [eV,enV,enC,ha] using done _
 by_cases hid:2 * (e.strs.length:Int)+1 > 7
 ·rw [hno (.inr (.inl hid))]
  simp -implicitDefEqProofs (disch:=omega) only [push_cast,simprocAttr,k0,k1,ha,hid,↓gd]
  simpa [eV,enV,enC,ha] using done _
 simp -implicitDefEqProofs (disch:=omega) only [push_cast,simprocAttr,k0,k1,ha,hid,↓gd]
 refine (WordOk_ok path (by omega) _).to ?_
 cases hwp:wordOk path
 ·have hh:headOk (callHead path text)=false∨wordOk text=false:=by
   cases hwt:wordOk text
   ·exact .inr rfl
   ·exact .inl (by rw [callHead_ok hwt,hwp])
  rw [hno (.inr (.inr hh))]
  simp -implicitDefEqProofs (disch:=omega) only [push_cast,simprocAttr,k0,k1,ha,hid,↓gd]
  simpa [eV,enV,enC,ha] using done _
 simp -implicitDefEqProofs (disch:=omega) only [push_cast,simprocAttr,k0,k1,ha,hid,↓gd]
 refine (WordOk_ok text (by omega) _).to ?_
 cases hwt:wordOk text
 ·rw [hno (.inr (.inr (.inr hwt)))]
  simp -implicitDefEqProofs (disch:=omega) only [push_cast,simprocAttr,k0,k1,ha,hid,↓gd]
  simpa [eV,enV,enC,ha] using done _
 have hwl:=(wordOk_iff.1 hwt).2
 have hyes:callM e path text=({ e with strs:=e.strs++[{ newSt (2 * e.strs.length+1) with head:=callHead path text,say:=text }] },2 * (e.strs.length:Int)+1,true):=by
  rw [callM,if_neg]
  rintro (q | q | q | q)
  ·rw [ha] at q; cases q
  ·exact hid q
  ·rw [callHead_ok hwt,hwp] at q; cases q
  ·rw [hwt] at q; cases q
 rw [hyes]
 have hWc:=callM_w hW path text
 rw [hyes] at hWc
 generalize hE2:({ e with strs:=e.strs++[{ newSt (2 * e.strs.length+1) with head:=callHead path text,say:=text }] }:En)=E2 at hWc ⊢
 simp -implicitDefEqProofs (disch:=omega) only [push_cast,simprocAttr,k0,k1,ha,hid,↓gd]
 refine (newStream_ok _ _).to ?_
 simp -implicitDefEqProofs (disch:=omega) only [push_cast,simprocAttr,k0,k1,ha,hid,↓gd]
 refine (Itoa_ok text.length (by omega) _).to ?_
 have hb2:=hn.at_.1
 have hlen:=strsC_len e.strs
 have lb:=lt_of_some hb2
 simp -implicitDefEqProofs (disch:=omega) only [push_cast,simprocAttr,k0,k1,ha,hid,hb2,↓gd]
 repeat refine And.intro (by omega) ?_
 have hc2:=hn.at_.2
 have lc:=lt_of_some hc2
 have hbc:=hn.at_.ne
 refine ((eclone_ok (e:=E2) (b:=S1.length+4) (c:=c') (hWc.b (by decide)) ⟨?_,?_⟩).as (by rw [←hE2]; simp [eV,enV,enC,ha])).mono ?_
 ·rw [←hE2]
  simp -implicitDefEqProofs (disch:=omega) only [push_cast,simprocAttr,↓gd]
  rw [strsC_app,strsC_one]
  rfl
 ·rw [←hE2]
  simp -implicitDefEqProofs (disch:=omega) only [push_cast,simprocAttr,hc2,↓gd]
 rintro r S3 ⟨b3,c3,rfl,q3⟩
 have kz:S3[S.length+1]?=some (.cells 0 zE):=q3.upd.get (by simp -implicitDefEqProofs (disch:=omega) only [push_cast,simprocAttr,k1,↓gd]) (by simp)
 have lz:=lt_of_some kz
 have hu3:Upd [] S S3:=(((hx.upd.set (i:=b') .dead (.inl hx.hb)).app _).trans q3.upd)
 have e1:=q3.hb; have e2:=q3.hc
 simp at e1 e2
 have q4:EnNew S _ b3 c3 S3:=⟨q3.at_,by omega,by omega,hu3⟩
 have v1:=cells_ne q3.at_.1 kz (by decide)
 have v2:=cells_ne q3.at_.2 kz (by decide)
 simp -implicitDefEqProofs (disch:=omega) only [push_cast,simprocAttr,kz,↓gd]
 exact ⟨_,_,Wk.refl _ _ _,_,rfl,b3,c3,rfl,q4.set (j:=S.length+1) _ (by omega) v1 v2⟩
end
section
open Go
theorem EndLeave_X {e:En} (he:EnB e) (id:Int) {S:List Blk} {vo vi:V} {b c:Nat} {ls:List XS} (h:EnX S vo vi b c ls e):VCall Tryz.prog 104 [xV vo vi b c e,.int .i64 id] S fun r S' =>
  ∃v,r=.tup [v,.bool (endLeaveM e id).2]∧RNew S (endLeaveM e id).1 v S':=by
 have hok:=fun X=>EndOk_X he (h.app X)
 have hcp:=fun X=>eclone_X he (h.app X)
 have vo1:=h.out.one
 have vi1:=h.inn.one
 have voe:=h.out.er
 have vie:=h.inn.er
 have voe1:=h.out.er1
 have vie1:=h.inn.er1
 refine VCall.en hDe Tryz.func104 Tryz.ntmps104 Tryz.results104 ?_
 simp -implicitDefEqProofs (disch:=omega) only [push_cast,simprocAttr,vo1,vi1,voe,vie,↓gd]
 refine ((hok _).as (by simp [xV,enX,voe,vie,voe1,vie1])).to ?_
 cases hE:endOk e
 ·rw [endLeaveM,if_pos hE]
  simp -implicitDefEqProofs (disch:=omega) only [push_cast,simprocAttr,↓gd]
  exact RNew.zeroT (by simp [Plain])
 have hW:=endOk_w hE
 have hWl:=leaveM_w hW id
 rw [endLeaveM,if_neg (by rw [hE]; simp)]
 simp -implicitDefEqProofs (disch:=omega) only [push_cast,simprocAttr,vo1,vi1,voe,vie,↓gd]
 refine ((hcp _).as (by simp [xV,enX,voe,vie,voe1,vie1])).mono ?_
 rintro r S1 ⟨b',c',rfl,hn⟩
 have k0:S1[S.length]?=some (.cells 0 (enX vo vi (.heap b e.strs.length) (.heap c e.wait.length) e)):=hn.upd.get (by simp -implicitDefEqProofs (disch:=omega) only [push_cast,simprocAttr,↓gd]) (by simp)
 have k1:S1[S.length+1]?=some (.cells 0 zE):=hn.upd.get (by simp -implicitDefEqProofs (disch:=omega) only [push_cast,simprocAttr,↓gd]) (by simp)
 have l0:=lt_of_some k0
 have l1:=lt_of_some k1
 have hx:=hn.app
 have hb1:=hn.hb; have hc1:=hn.hc
 simp at hb1 hc1
 have done:∀X,∃r S2,Wk S (.tup [eV b' c' e,.bool false]) (S1.set (S.length+1) (.cells 0 (enC (.heap b' e.strs.length) (.heap c' e.wait.length) e))++X) r S2∧∃v,r=.tup [v,.bool false]∧RNew S e v S2:=fun X =>
  ⟨_,_,Wk.refl _ _ _,_,rfl,b',c',rfl,(hx.set _ (by omega) (by omega) (by omega)).appR _⟩
 simp -implicitDefEqProofs (disch:=omega) only [push_cast,simprocAttr,↓gd]
 refine ((stream_ok he (p:=S1.length) (b:=b') (c:=c') ⟨?_,hn.at_.app _⟩ id).as rfl).to ?_
 ·simp -implicitDefEqProofs (disch:=omega) only [push_cast,simprocAttr,↓gd]
 have hb2:=hn.at_.1
 have hc2:=hn.at_.2
 have lb:=lt_of_some hb2
 have lc:=lt_of_some hc2
 have hbc:=hn.at_.ne
 have hlen:=strsC_len e.strs
 have hlw:=frmsC_len e.wait
 have hwn:e.wait.length≤1100000:=he.wait
 have hel:e.strs.length≤1100000:=he.len
 have fin:∀(E2:En) (c2:Nat) (ZZ:List Blk),leaveM e id=(E2,true)→EnW (60+1) E2→EnAt ZZ b' c2 E2→S1.length≤ZZ.length→(∀j,j < S1.length→j≠b'→j≠c'→ZZ[j]?=S1[j]?) →
   VCall Tryz.prog 42 [eV b' c2 E2] ZZ fun r S3=>∃b3 c3,r=eV b3 c3 E2∧EnNew S E2 b3 c3 S3∧S3[S.length+1]?=some (.cells 0 zE)∧b3≠S.length+1∧c3≠S.length+1∧S.length+1 < S3.length:=by
  intro E2 c2 ZZ hl hW2 hat hTl hTs
  refine (eclone_ok (hW2.b (by decide)) hat).mono ?_
  rintro r S3 ⟨b3,c3,rfl,q3⟩
  have hT:∀j,j < S1.length→j≠b'→j≠c'→S3[j]?=S1[j]?:=fun j hj h1 h2=>by rw [q3.upd.2 j (by omega) (by simp)]; exact hTs j hj h1 h2
  have hz:S3[S.length+1]?=some (.cells 0 zE):=by rw [hT _ l1 (by omega) (by omega)]; exact k1
  have lz:=lt_of_some hz
  have e1:=q3.hb; have e2:=q3.hc
  have hu3:Upd [] S S3:=⟨by have:=q3.upd.1; omega,fun j hj _=>by rw [hT j (by omega) (by omega) (by omega)]; exact hx.upd.2 j hj (by simp)⟩
  have q4:EnNew S E2 b3 c3 S3:=⟨q3.at_,by omega,by omega,hu3⟩
  have v1:=cells_ne q3.at_.1 hz (by decide)
  have v2:=cells_ne q3.at_.2 hz (by decide)
  exact ⟨b3,c3,rfl,q4,hz,v1,v2,lz⟩
 rcases Bool.eq_false_or_eq_true e.ans with ha | ha
 ·have hm:leaveM e id=(e,false):=by
   rw [leaveM]; split
   ·rfl
   ·rw [if_pos (.inl ha)]
  rw [hm]
  simp -implicitDefEqProofs (disch:=omega) only [push_cast,simprocAttr,k0,k1,ha,↓gd]
  simpa [eV,enV,enC,ha] using done _
 cases hat:atM e.strs id with
 | none =>
  have hap:atP e.strs b' id=.nilp:=by rw [atP,hat]
  have hm:leaveM e id=(e,false):=by rw [leaveM]; simp only [hat]
  rw [hm]
  simp -implicitDefEqProofs (disch:=omega) only [push_cast,simprocAttr,k0,k1,ha,hap,↓gd]
  simpa [eV,enV,enC,ha] using done _
 | some k =>
  obtain ⟨hk,hid⟩:=atM_some hat
  have hap:atP e.strs b' id=.ptr b' (k * 12):=by rw [atP,hat]
  have hst:=strsC_get hk (c:=1) (by decide)
  have hbg:=strsC_get hk (c:=4) (by decide)
  have hput:∀s',strC s'=(strC (e.strs.getD k st0)).set 1 (.int .i64 3)→splice (strsC e.strs) (k * 12+1) [.int .i64 3]=strsC (e.strs.set k s'):=fun s'=>strsC_put hk (by decide)
  have hm:leaveM e id=if (e.strs.getD k st0).state≠1 then (e,false) else
    ({ e with strs:=e.strs.set k { e.strs.getD k st0 with state:=3 },wait:=if (e.strs.getD k st0).begun then e.wait++[⟨3,false,id,[]⟩] else e.wait },true):=by
   rw [leaveM]; simp only [hat,stAt,setSt,ha,Bool.false_eq_true,false_or]; rfl
  generalize e.strs.getD k st0=s at hst hbg hput hm
  obtain ⟨sid,sst,shd,ssay,sbg,ssd,ssent,sgot,stx,shrd,ssnd,srm⟩:=s
  have hput:=hput ⟨sid,3,shd,ssay,sbg,ssd,ssent,sgot,stx,shrd,ssnd,srm⟩ rfl
  have g4:=get2 (l:=e.strs) (s:=⟨sid,3,shd,ssay,sbg,ssd,ssent,sgot,stx,shrd,ssnd,srm⟩) hk (c:=4) (by decide)
  by_cases hs1:sst=1
  ·rw [if_neg (by simp [hs1])] at hm
   rw [hm] at hWl
   cases sbg
   ·simp only [Bool.false_eq_true,if_false] at hm hWl
    generalize hE2:({ e with strs:=e.strs.set k ⟨sid,3,shd,ssay,false,ssd,ssent,sgot,stx,shrd,ssnd,srm⟩ }:En)=E2 at hm hWl
    rw [hm]
    simp -implicitDefEqProofs (disch:=omega) only [push_cast,simprocAttr,k0,k1,ha,hap,hb2,hst,hs1,g4,hput,↓gd]
    repeat refine And.intro (by omega) ?_
    refine ((fin E2 c' _ hm hWl ⟨?_,?_⟩ ?_ ?_).as (by rw [←hE2]; simp [eV,enV,enC,ha])).mono ?_
    ·rw [←hE2]
     simp -implicitDefEqProofs (disch:=omega) only [push_cast,simprocAttr,↓gd]
    ·rw [←hE2]
     simp -implicitDefEqProofs (disch:=omega) only [push_cast,simprocAttr,hc2,↓gd]
    ·simp
    ·intro j hj h1 h2
     rw [List.getElem?_append_left (by simpa using hj),get_set_ne (Ne.symm h1)]
    rintro r S3 ⟨b3,c3,rfl,q4,hz,v1,v2,lz⟩
    simp -implicitDefEqProofs (disch:=omega) only [push_cast,simprocAttr,hz,↓gd]
    exact ⟨_,_,Wk.refl _ _ _,_,rfl,b3,c3,rfl,q4.set (j:=S.length+1) _ (by omega) v1 v2⟩
   ·simp only [if_true] at hm hWl
    generalize hE2:({ e with strs:=e.strs.set k ⟨sid,3,shd,ssay,true,ssd,ssent,sgot,stx,shrd,ssnd,srm⟩,wait:=e.wait++[⟨3,false,id,[]⟩] }:En)=E2 at hm hWl
    rw [hm]
    simp -implicitDefEqProofs (disch:=omega) only [push_cast,simprocAttr,k0,k1,ha,hap,hb2,hc2,hst,hs1,g4,hput,↓gd]
    repeat refine And.intro (by omega) ?_
    refine ((fin E2 (S1.length+2) _ hm hWl ⟨?_,?_⟩ ?_ ?_).as (by rw [←hE2]; simp [eV,enV,enC,ha])).mono ?_
    ·rw [←hE2]
     simp -implicitDefEqProofs (disch:=omega) only [push_cast,simprocAttr,↓gd]
    ·rw [←hE2]
     simp -implicitDefEqProofs (disch:=omega) only [push_cast,simprocAttr,↓gd]
     rw [frmsC_app,frmsC_one]; rfl
    ·simp
    ·intro j hj h1 h2
     rw [List.getElem?_append_left (by simpa using hj),get_set_ne (Ne.symm h2),get_set_ne (Ne.symm h1)]
    rintro r S3 ⟨b3,c3,rfl,q4,hz,v1,v2,lz⟩
    simp -implicitDefEqProofs (disch:=omega) only [push_cast,simprocAttr,hz,↓gd]
    exact ⟨_,_,Wk.refl _ _ _,_,rfl,b3,c3,rfl,q4.set (j:=S.length+1) _ (by omega) v1 v2⟩
  ·rw [if_pos hs1] at hm
   rw [hm]
   simp -implicitDefEqProofs (disch:=omega) only [push_cast,simprocAttr,k0,k1,ha,hap,hb2,hst,hs1,↓gd]
   repeat refine And.intro (by omega) ?_
   simpa [eV,enV,enC,ha] using done _
end
section
open Go
theorem wclone_O {w:Wo} (hB:WoB w) {S:List Blk} {p q:XP} (h:WX S p q w):VCall Tryz.prog 60 [pV p q w] S fun r S'=>RWO S w r S':=by
 have h1:=fun X=>eclone_O hB.caller (h.caller.app X)
 have h2:=fun S2 (g:EX S2 q w.answerer)=>eclone_O hB.answerer (S:=S2) g
 obtain ⟨o1,i1,o2,i2,o3,i3⟩:=h.caller.facts
 obtain ⟨o4,i4,o5,i5,o6,i6⟩:=h.answerer.facts
 refine VCall.ex hDe (fun _=>false) (fun id=>if id=1 then [2,2,5,5,5,7,7,9,9,10] else []) Tryz.func60 Tryz.ntmps60 Tryz.results60 ?_
 simp -implicitDefEqProofs (disch:=omega) only [push_cast,simprocAttr,o1,i1,o2,i2,o4,i4,o5,i5,↓gd]
 refine ((h1 _).as (by simp [xV,enX,o1,i1,o2,i2,o3,i3,o4,i4,o5,i5,o6,i6])).mono ?_
 rintro r S1 ⟨po,pi,b1,c1,ls,rfl,n1⟩
 have k0:S1[S.length]?=some (.cells 0 (pC p q w)):=n1.upd.get (by simp -implicitDefEqProofs (disch:=omega) only [push_cast,simprocAttr,↓gd]) (by simp)
 have k1:S1[S.length+1]?=some (.cells 0 zW):=n1.upd.get (by simp -implicitDefEqProofs (disch:=omega) only [push_cast,simprocAttr,↓gd]) (by simp)
 simp -implicitDefEqProofs (disch:=omega) only [push_cast,simprocAttr,k0,k1,o1,i1,o2,i2,o4,i4,o5,i5,↓gd]
 refine ((h2 _ ((h.answerer.app _).upd n1.upd)).as (by simp [xV,enX,o1,i1,o2,i2,o3,i3,o4,i4,o5,i5,o6,i6])).mono ?_
 rintro r S2 ⟨qo,qi,d1,f1,ks,rfl,n2⟩
 have k0':=n2.upd.get k0 (by simp)
 have k1':=n2.upd.get k1 (by simp)
 have l0:=lt_of_some k0'
 have l1:=lt_of_some k1'
 have hu:Upd [] S S1:=((Upd.refl [] S).app _).trans n1.upd
 simp -implicitDefEqProofs (disch:=omega) only [push_cast,simprocAttr,k0,k1,k0',k1',o1,i1,o2,i2,o4,i4,o5,i5,↓gd]
 refine ⟨_,_,Wk.refl _ _ _,po,pi,b1,c1,ls,qo,qi,d1,f1,ks,rfl,?_⟩
 have hc:EnO S po pi b1 c1 ls w.caller S2:=(n1.upd2 n2.upd).of ((Upd.refl [] S).app _)
 have ha:EnO S qo qi d1 f1 ks w.answerer S2:=n2.of hu
 have hw:WoO S po pi b1 c1 ls qo qi d1 f1 ks w S2:=⟨hc,ha,fun p hp q hq=>Nat.lt_of_lt_of_le (n1.below p hp) (n2.above q hq)⟩
 have k0s:∀B,(S2.set (S.length+1) B)[S.length]?=some (.cells 0 (pC p q w)):=fun B=>by rw [List.getElem?_set_ne (by omega)]; exact k0'
 have k1s:∀B,(S2.set S.length B)[S.length+1]?=some (.cells 0 zW):=fun B=>by rw [List.getElem?_set_ne (by omega)]; exact k1'
 first
  | exact (hw.var _ k1' (by omega)).var _ (k0s _) (by omega)
  | exact (hw.var _ k0' (by omega)).var _ (k1s _) (by omega)
  | exact hw.var _ k1' (by omega)
  | exact hw.var _ k0' (by omega)
  | exact hw
theorem iwrite_X {e:En} (he:EnB e) (hok:endOk e=true) {wire:List UInt8} (hw:wire.length≤1100000) {S:List Blk} {p:XP} (h:EX S p e):VCall Tryz.prog 105 [.agg (pE p e),.str wire] S fun r S' =>
  ∃v,r=.tup [v,.str (if e.bad=false∧wire.length+(writeM e).2.length≤800 then wire++(writeM e).2 else wire)]∧RX S' (if e.bad=false∧wire.length+(writeM e).2.length≤800 then (writeM e).1 else e) v∧Upd [] S S':=by
 have hcon:=fun X=>EndWrite_R false he (h.app X)
 have hW:=endOk_w hok
 have hol:=writeM_len hW
 obtain ⟨o1,i1,o2,i2,o3,i3⟩:=h.facts
 refine VCall.en hDe Tryz.func105 Tryz.ntmps105 Tryz.results105 ?_
 simp -implicitDefEqProofs (disch:=omega) only [push_cast,simprocAttr,o1,i1,o2,i2,↓gd]
 refine ((hcon _).as (by simp [xV,enX,o1,i1,o2,i2,o3,i3])).mono ?_
 rintro r S1 ⟨v,rfl,q0⟩
 obtain ⟨⟨p1,rfl,q1⟩,hu1⟩:=q0.rx
 have k0:S1[S.length]?=some (.cells 0 (pE p e)):=hu1.get (by simp -implicitDefEqProofs (disch:=omega) only [push_cast,simprocAttr,↓gd]) (by simp)
 have k1:S1[S.length+1]?=some (.cells 0 zE):=hu1.get (by simp -implicitDefEqProofs (disch:=omega) only [push_cast,simprocAttr,↓gd]) (by simp)
 have l0:=lt_of_some k0
 have l1:=lt_of_some k1
 have hm:endWriteM e=if e.bad then (e,[]) else writeM e:=by rw [endWriteM,if_neg (by rw [hok]; simp)]
 have hu:Upd [] S S1:=((Upd.refl [] S).app _).trans hu1
 have hst:EX S1 p e:=h.upd hu
 rcases Bool.eq_false_or_eq_true e.bad with hb | hb
 ·rw [if_pos hb] at hm
  rw [hm] at q1 ⊢
  rw [if_neg (by rw [hb]; simp),if_neg (by rw [hb]; simp)]
  obtain ⟨w1,w2,w3,w4,w5,w6⟩:=q1.facts
  simp -implicitDefEqProofs (disch:=omega) only [push_cast,simprocAttr,k0,k1,hb,o1,i1,o2,i2,w1,w2,w3,w4,↓gd]
  exact ⟨_,_,Wk.refl _ _ _,_,rfl,⟨p,by simp [pE,enX,hb],(hst.var _ k1).app _⟩,(hu.set _ (.inl (by omega))).app _⟩
 ·rw [if_neg (by rw [hb]; simp)] at hm
  rw [hm] at q1 ⊢
  generalize writeM e=y at *
  obtain ⟨y,o⟩:=y
  simp only at *
  obtain ⟨w1,w2,w3,w4,w5,w6⟩:=q1.facts
  by_cases hl:(wire.length:Int)+o.length > 800
  ·rw [if_neg (by omega),if_neg (by omega)]
   simp -implicitDefEqProofs (disch:=omega) only [push_cast,simprocAttr,k0,k1,hb,hl,o1,i1,o2,i2,w1,w2,w3,w4,↓gd]
   exact ⟨_,_,Wk.refl _ _ _,_,rfl,⟨p,by simp [pE,enX,hb],(hst.var _ k1).app _⟩,(hu.set _ (.inl (by omega))).app _⟩
  ·rw [if_pos ⟨hb,by omega⟩,if_pos ⟨hb,by omega⟩]
   simp -implicitDefEqProofs (disch:=omega) only [push_cast,simprocAttr,k0,k1,hb,hl,o1,i1,o2,i2,w1,w2,w3,w4,↓gd]
   repeat refine And.intro (by omega) ?_
   exact ⟨_,_,Wk.refl _ _ _,_,rfl,⟨p1,rfl,(q1.var _ k1).app _⟩,(hu.set _ (.inl (by omega))).app _⟩
theorem ipass_X {e:En} (he:EnB e) (hok:endOk e=true) {wire:List UInt8} (hw:wire.length≤1100000) (n:Int) {S:List Blk} {p:XP} (h:EX S p e):VCall Tryz.prog 106 [.agg (pE p e),.str wire,.int .i64 n] S fun r S' =>
  ∃v,r=.tup [v,.str (if 0≤n∧n≤90 then wire.drop n.toNat else wire)]∧RX S' (if 0≤n∧n≤90 then hearWM e (wire.take n.toNat) else e) v∧Upd [] S S':=by
 obtain ⟨o1,i1,o2,i2,o3,i3⟩:=h.facts
 refine VCall.ex hDe (fun _=>false) (fun id=>if id=4 then [4,4,4,4,8,10,10,10,10,10] else []) Tryz.func106 Tryz.ntmps106 Tryz.results106 ?_
 simp -implicitDefEqProofs (disch:=omega) only [push_cast,simprocAttr,o1,i1,o2,i2,↓gd]
 by_cases hin:0≤n∧n≤90
 ·rw [if_pos hin,if_pos hin]
  refine (in_t hin _).to ?_
  have emin:(if (wire.length:Int) < n then (wire.length:Int) else n)=((min n.toNat wire.length:Nat):Int):=by omega
  have etk:wire.take (min n.toNat wire.length)=wire.take n.toNat:=by rw [List.take_eq_take_iff]; omega
  have edr:wire.drop (min n.toNat wire.length)=wire.drop n.toNat:=by
   rw [List.drop_eq_drop_iff]; omega
  have hcon:=fun S2 (g:EX S2 p e)=>EndHear_R false he (wire.take n.toNat) (by rw [List.length_take]; omega) (S:=S2) g
  simp -implicitDefEqProofs (disch:=omega) only [push_cast,simprocAttr,emin,etk,o1,i1,o2,i2,↓gd]
  repeat refine And.intro (by omega) ?_
  refine ((hcon _ (h.app _)).as (by simp [xV,enX,List.drop_zero,o1,i1,o2,i2,o3,i3])).mono ?_
  rintro r S1 q0
  obtain ⟨⟨p1,rfl,q1⟩,hu1⟩:=q0.rx
  have hm:endHearM e (wire.take n.toNat)=hearWM e (wire.take n.toNat):=by
   rw [endHearM,if_neg]
   rw [hok,List.length_take]
   rintro (q | q)
   ·cases q
   ·omega
  rw [hm] at q1 ⊢
  have k1:S1[S.length+1]?=some (.cells 0 zE):=hu1.get (by simp -implicitDefEqProofs (disch:=omega) only [push_cast,simprocAttr,↓gd]) (by simp)
  have l1:=lt_of_some k1
  have hu:Upd [] S S1:=((Upd.refl [] S).app _).trans hu1
  generalize hearWM e (wire.take n.toNat)=y at *
  obtain ⟨w1,w2,w3,w4,w5,w6⟩:=q1.facts
  simp -implicitDefEqProofs (disch:=omega) only [push_cast,simprocAttr,k1,edr,List.take_length,w1,w2,w3,w4,↓gd]
  repeat refine And.intro (by omega) ?_
  exact ⟨_,_,Wk.refl _ _ _,_,rfl,⟨p1,rfl,q1.var _ k1⟩,hu.set _ (.inl (by omega))⟩
 ·rw [if_neg hin,if_neg hin]
  refine (in_f hin _).to ?_
  simp -implicitDefEqProofs (disch:=omega) only [push_cast,simprocAttr,o1,i1,o2,i2,↓gd]
  exact ⟨_,_,Wk.refl _ _ _,_,rfl,⟨p,rfl,h.app _⟩,(Upd.refl _ _).app _⟩
end
end Go.Proofs.YtldogccmhncnoaaGreatDoor
