/- A part of the proof: contracts of functions, or plain facts on which these lean. -/
import Derived.Test.YtldogccmhncnoaaGreatDoorMh16
import Derived.Test.YtldogccmhncnoaaGreatDoorMh28
namespace Go.Proofs.YtldogccmhncnoaaGreatDoor
open Go
set_option linter.unusedVariables false
set_option linter.unusedSimpArgs false
set_option maxRecDepth 100000
set_option maxHeartbeats 16000000

section
open Go
def Pw (R:V→V→Prop) (xs ys:List V):Prop:=xs.length=ys.length∧∀(i:Nat) (a b:V),xs[i]?=some a→ys[i]?=some b→R a b
section
variable {R Q:V→V→Prop} {x y:V} {xs ys us vs:List V}
theorem Pw.nil:Pw R [] []:=⟨rfl,fun i a b h=>by simp at h⟩
theorem Pw.cons (h:R x y) (g:Pw R xs ys):Pw R (x :: xs) (y :: ys):=⟨by simp [g.1],fun i a b ha hb=>by
 cases i with
 | zero=>cases ha; cases hb; exact h
 | succ i=>exact g.2 i a b (by simpa using ha) (by simpa using hb)⟩
theorem Pw.app (h:Pw R xs ys) (g:Pw R us vs):Pw R (xs++us) (ys++vs):=⟨by simp [h.1,g.1],fun i a b ha hb=>by
 rcases Nat.lt_or_ge i xs.length with q | q
 ·rw [List.getElem?_append_left q] at ha
  rw [List.getElem?_append_left (by rw [←h.1]; exact q)] at hb
  exact h.2 i a b ha hb
 ·rw [List.getElem?_append_right q] at ha
  rw [List.getElem?_append_right (by rw [←h.1]; exact q),←h.1] at hb
  exact g.2 _ a b ha hb⟩
theorem Pw.mono (h:Pw R xs ys) (hRQ:∀a b,R a b→Q a b):Pw Q xs ys:=⟨h.1,fun i a b ha hb=>hRQ a b (h.2 i a b ha hb)⟩
end
def erC (e:En):List V:=enC (.rows none (e.strs.map stV)) (.rows none (e.wait.map frV)) e
def erV (e:En):V:=.agg (erC e)
@[push_cast] theorem erC_eq (e:En):erC e=enC (.rows none (e.strs.map stV)) (.rows none (e.wait.map frV)) e:=rfl
@[push_cast] theorem erV_eq (e:En):erV e=.agg (erC e):=rfl
section
variable {S:List Blk}
theorem st_cells (l:List St):(l.map stV).flatMap V.cells=strsC l:=by rw [List.flatMap_map]; rfl
theorem frm_cells (l:List Fr):(l.map frV).flatMap V.cells=frmsC l:=by rw [List.flatMap_map]; rfl
theorem pw_str {s:St} {vh vg:V} (h:FL S s.head vh) (g:FL S s.got vg):Pw (BorC S) (strC s) (strX s vh vg) :=
 .cons (.same (.int _ _)) (.cons (.same (.int _ _)) (.cons h.bor (.cons (.same (.str _)) (.cons (.same (.bool _)) (.cons (.same (.bool _)) (.cons (.same (.int _ _)) (.cons g.bor (.cons (.same (.str _)) (.cons (.same (.bool _)) (.cons (.same (.int _ _)) (.cons (.same (.int _ _)) .nil)))))))))))
theorem pw_strs:∀{ls:List XS},(∀x ∈ ls,FL S x.1.head x.2.1∧FL S x.1.got x.2.2)→Pw (BorC S) (strsC (ls.map Prod.fst)) (xsC ls)
 | [],_=>.nil
 | x :: ls,h=>(pw_str (h x (List.mem_cons_self ..)).1 (h x (List.mem_cons_self ..)).2).app (pw_strs fun y hy=>h y (List.mem_cons_of_mem _ hy))
theorem pw_frms:∀(l:List Fr),Pw (BorC S) (frmsC l) (frmsC l)
 | []=>.nil
 | f :: l=>(show Pw (BorC S) (frmC f) (frmC f) from .cons (.same (.int _ _)) (.cons (.same (.bool _)) (.cons (.same (.int _ _)) (.cons (.same (.str _)) .nil)))).app (pw_frms l)
theorem EnX.pw {vo vi:V} {b c:Nat} {ls:List XS} {e:En} (h:EnX S vo vi b c ls e):Pw (BorD S) (erC e) (enX vo vi (.heap b e.strs.length) (.heap c e.wait.length) e):=by
 have h1:BorD S (.rows none (e.strs.map stV)) (.heap b e.strs.length):=by
  have:=BorD.arr (S:=S) (xs:=e.strs.map stV) h.hb (by rw [st_cells,←h.strs]; exact (pw_strs h.heads).1) (by rw [st_cells,←h.strs]; exact (pw_strs h.heads).2)
  rwa [List.length_map] at this
 have h2:BorD S (.rows none (e.wait.map frV)) (.heap c e.wait.length):=by
  have:=BorD.arr (S:=S) (xs:=e.wait.map frV) h.hc (by rw [frm_cells]) (by rw [frm_cells]; exact (pw_frms e.wait).2)
  rwa [List.length_map] at this
 exact .cons (.one (.same (.bool _))) (.cons (.one h.out.bor) (.cons (.one (.same (.int _ _))) (.cons (.one h.inn.bor) (.cons (.one (.same (.int _ _))) (.cons (.one (.same (.str _))) (.cons h1 (.cons (.one (.same (.int _ _))) (.cons (.one (.same (.int _ _))) (.cons h2 (.cons (.one (.same (.bool _))) .nil))))))))))
theorem EnX.borE {vo vi:V} {b c:Nat} {ls:List XS} {e:En} (h:EnX S vo vi b c ls e):BorE S (erV e) (xV vo vi b c e):=.agg h.pw.1 h.pw.2
theorem borM_of:∀{xs ys:List V},Pw (BorE S) xs ys→BorM S xs ys:=fun h=>h
theorem borE_int (k:IntKind) (n:Int):BorE S (.int k n) (.int k n):=.one (.one (.same (.int _ _)))
end
end
section
open Go
theorem upd_app {S S':List Blk} (h:Upd [] S S'):∃X,S'=S++X:=by
 refine ⟨S'.drop S.length,?_⟩
 apply List.ext_getElem?
 intro j
 rcases Nat.lt_or_ge j S.length with q | q
 ·rw [List.getElem?_append_left q]
  have h1:S[j]?=some S[j]:=List.getElem?_eq_getElem q
  rw [h1]
  exact h.get h1 (by simp)
 ·rw [List.getElem?_append_right q,List.getElem?_drop,show S.length+(j - S.length)=j by omega]
theorem dig_byte (j:Nat):UInt8.ofNat (IntKind.u8.wrap (48+Int.tmod (j:Int) 10)).toNat=UInt8.ofNat (48+j % 10):=by
 have e:Int.tmod (j:Int) 10=((j % 10:Nat):Int):=tmod_nat j 10
 rw [e,u8_fit _ (by omega)]
 congr 1
theorem markText_ok (k:Nat) (hk:k≤100000000) (S:List Blk):VCall Tryz.prog 68 [.int .i64 k] S fun r S'=>r=.str (mtext k)∧S'=S:=by
 refine VCall.en hD Tryz.func68 Tryz.ntmps68 Tryz.results68 ?_
 by_cases h0:(k:Int)≤0
 ·have:k=0:=by omega
  subst this
  simp -implicitDefEqProofs (maxSteps:=1000000) (disch:=omega) only [push_cast,simprocAttr,↓gd]
  exact fin0 (by simp [mtext])
 simp -implicitDefEqProofs (maxSteps:=1000000) (disch:=omega) only [push_cast,simprocAttr,h0,↓gd]
 refine wpV_loop (fun m t S'=>∃(o:List UInt8),m≤k∧t 0=.int .i64 m∧t 3=.str o∧mdig m++o=mdig k∧Upd [] S S') k ⟨[],Nat.le_refl _,rfl,rfl,by simp,Upd.refl _ _⟩ ?_
 rintro j t S' ⟨o,hjk,h0',h3,ho,hu⟩
 have hol:=congrArg List.length ho
 rw [List.length_append] at hol
 have hml:=mdig_len k
 have hmj:=mdig_len j
 have hdb:=dig_byte j
 refine wpV_of0 hD ?_
 by_cases hj:0 < j
 ·have hj':(j:Int) > 0:=by omega
  have hdv:Int.tdiv (j:Int) 10=((j / 10:Nat):Int):=rfl
  have htm0:0≤Int.tmod (j:Int) 10∧Int.tmod (j:Int) 10 < 10:=by
   have e:Int.tmod (j:Int) 10=((j % 10:Nat):Int):=tmod_nat j 10
   omega
  simp -implicitDefEqProofs (maxSteps:=1000000) (disch:=omega) only [push_cast,simprocAttr,h0',h3,hj',hdb,hdv,↓gd]
  repeat refine And.intro (by omega) ?_
  have e10:Int.tmod (j:Int) 10=((j % 10:Nat):Int):=tmod_nat j 10
  refine ⟨j / 10,by omega,UInt8.ofNat (48+j % 10) :: o,by omega,?_,?_,?_,hu.app _⟩
  ·rfl
  ·rw [e10,show ((48:Int)+((j % 10:Nat):Int)).toNat=48+j % 10 by omega]
  ·rw [←ho,mdig_pos hj,List.append_assoc]
   rfl
 ·have:j=0:=by omega
  subst this
  rw [mdig_zero,List.nil_append] at ho
  simp -implicitDefEqProofs (maxSteps:=1000000) (disch:=omega) only [push_cast,simprocAttr,h0',h3,↓gd]
  obtain ⟨X,rfl⟩:=upd_app hu
  have e:mtext k=109 :: mdig k:=by rw [mtext,if_neg (by omega)]
  rw [ho,e]
  exact ⟨by omega,fin1 (.str _) rfl⟩
end
section
open Go
theorem mem_getD {α:Type} (d:α) {l:List α} {i:Nat} (h:i < l.length):l.getD i d ∈ l:=by
 rw [List.getD_eq_getElem?_getD,List.getElem?_eq_getElem h]; exact List.getElem_mem h
theorem getD_frV {l:List Fr} {i:Nat} (h:i < l.length):(l.map frV).getD i .junk=frV (l.getD i fr0):=by
 rw [List.getD_eq_getElem?_getD,List.getElem?_map,List.getElem?_eq_getElem h,List.getD_eq_getElem?_getD,List.getElem?_eq_getElem h]; rfl
theorem getD_stV {l:List St} {i:Nat} (h:i < l.length):(l.map stV).getD i .junk=stV (l.getD i st0):=by
 rw [List.getD_eq_getElem?_getD,List.getElem?_map,List.getElem?_eq_getElem h,List.getD_eq_getElem?_getD,List.getElem?_eq_getElem h]; rfl
@[push_cast] theorem all_frV_len (l:List Fr):(l.map frV).all (lenIs 4)=true:=by
 rw [List.all_eq_true]; intro v hv; obtain ⟨f,_,rfl⟩:=List.mem_map.1 hv; rfl
@[push_cast] theorem all_stV_len (l:List St):(l.map stV).all (lenIs 12)=true:=by
 rw [List.all_eq_true]; intro v hv; obtain ⟨f,_,rfl⟩:=List.mem_map.1 hv; rfl
theorem eqField_self (f:Fd) (hz:True) (S:List Blk):VCall Tryz.prog 131 [fV f,fV f] S fun r S'=>r=.bool true∧S'=S:=by
 refine VCall.en hD Tryz.func131 Tryz.ntmps131 Tryz.results131 ?_
 simp -implicitDefEqProofs (maxSteps:=1000000) (disch:=omega) only [push_cast,simprocAttr,decide_true,Bool.and_self,↓gd]
 exact fin1 (.bool _) rfl
theorem eqFieldS_self (a:List Fd) (hz:∀f ∈ a,True) (ha:a.length≤2000000) (S:List Blk):VCall Tryz.prog 95 [.rows none (a.map fV),.rows none (a.map fV)] S fun r S'=>r=.bool true∧S'=S:=by
 refine VCall.ex hD (fun _=>false) (fun id=>if id=6 then [8,8,8,8,8,8,8,8,10,10] else []) Tryz.func95 Tryz.ntmps95 Tryz.results95 ?_
 simp -implicitDefEqProofs (maxSteps:=1000000) (disch:=omega) only [push_cast,simprocAttr,↓gd]
 refine wpV_loop (fun m t S'=>∃i:Nat,m=a.length - i∧i≤a.length∧t 0=.rows none (a.map fV)∧t 1=.rows none (a.map fV)∧t 5=.int .i64 i∧S'=S) a.length ⟨0,by omega,by omega,rfl,rfl,rfl,rfl⟩ ?_
 rintro m t S' ⟨i,rfl,hi,h0,h1,h5,rfl⟩
 refine wpV_of hD (fun _=>false) (fun id=>if id=6 then [8,8,8,8,8,8,8,8,10,10] else []) (by kernel_rfl) ?_
 by_cases hil:i < a.length
 ·have hil':(i:Int) < a.length:=by omega
  have hg:=getD_fV hil
  have hzz:=hz _ (mem_getD fd0 hil)
  generalize a.getD i fd0=f at *
  simp -implicitDefEqProofs (maxSteps:=1000000) (disch:=omega) only [push_cast,simprocAttr,h0,h1,h5,hil',hg,↓gd]
  repeat refine And.intro (by omega) ?_
  refine ((eqField_self f hzz _).as (by rfl)).to ?_
  simp -implicitDefEqProofs (maxSteps:=1000000) (disch:=omega) only [push_cast,simprocAttr,h0,h1,h5,↓gd]
  exact ⟨a.length - (i+1),by omega,i+1,rfl,by omega,by simp⟩
 ·have:i=a.length:=by omega
  subst this
  have hil':¬((a.length:Nat):Int) < a.length:=by omega
  simp -implicitDefEqProofs (maxSteps:=1000000) (disch:=omega) only [push_cast,simprocAttr,h0,h1,h5,hil',↓gd]
  exact fin0 rfl
theorem eqTable_self (a:List Fd) (m:Int) (ha:a.length≤2000000) (S:List Blk):VCall Tryz.prog 45 [tV a m,tV a m] S fun r S'=>r=.bool true∧S'=S:=by
 refine VCall.en hD Tryz.func45 Tryz.ntmps45 Tryz.results45 ?_
 simp -implicitDefEqProofs (maxSteps:=1000000) (disch:=omega) only [push_cast,simprocAttr,↓gd]
 refine ((eqFieldS_self a (fun _ _=>trivial) ha _).as rfl).to ?_
 simp -implicitDefEqProofs (maxSteps:=1000000) (disch:=omega) only [push_cast,simprocAttr,↓gd]
 exact fin1 (.bool _) rfl
theorem eqFrame_self (f:Fr) (hz:True) (S:List Blk):VCall Tryz.prog 97 [frV f,frV f] S fun r S'=>r=.bool true∧S'=S:=by
 refine VCall.en hD Tryz.func97 Tryz.ntmps97 Tryz.results97 ?_
 simp -implicitDefEqProofs (maxSteps:=1000000) (disch:=omega) only [push_cast,simprocAttr,decide_true,Bool.and_self,↓gd]
 exact fin1 (.bool _) rfl
theorem eqFrameS_self (a:List Fr) (hz:∀f ∈ a,True) (ha:a.length≤2000000) (S:List Blk):VCall Tryz.prog 48 [.rows none (a.map frV),.rows none (a.map frV)] S fun r S'=>r=.bool true∧S'=S:=by
 refine VCall.ex hD (fun _=>false) (fun id=>if id=6 then [8,8,8,8,8,8,8,8,10,10] else []) Tryz.func48 Tryz.ntmps48 Tryz.results48 ?_
 simp -implicitDefEqProofs (maxSteps:=1000000) (disch:=omega) only [push_cast,simprocAttr,↓gd]
 refine wpV_loop (fun m t S'=>∃i:Nat,m=a.length - i∧i≤a.length∧t 0=.rows none (a.map frV)∧t 1=.rows none (a.map frV)∧t 5=.int .i64 i∧S'=S) a.length ⟨0,by omega,by omega,rfl,rfl,rfl,rfl⟩ ?_
 rintro m t S' ⟨i,rfl,hi,h0,h1,h5,rfl⟩
 refine wpV_of hD (fun _=>false) (fun id=>if id=6 then [8,8,8,8,8,8,8,8,10,10] else []) (by kernel_rfl) ?_
 by_cases hil:i < a.length
 ·have hil':(i:Int) < a.length:=by omega
  have hg:=getD_frV hil
  have hzz:=hz _ (mem_getD fr0 hil)
  generalize a.getD i fr0=f at *
  simp -implicitDefEqProofs (maxSteps:=1000000) (disch:=omega) only [push_cast,simprocAttr,h0,h1,h5,hil',hg,↓gd]
  repeat refine And.intro (by omega) ?_
  refine ((eqFrame_self f hzz _).as (by rfl)).to ?_
  simp -implicitDefEqProofs (maxSteps:=1000000) (disch:=omega) only [push_cast,simprocAttr,h0,h1,h5,↓gd]
  exact ⟨a.length - (i+1),by omega,i+1,rfl,by omega,by simp⟩
 ·have:i=a.length:=by omega
  subst this
  have hil':¬((a.length:Nat):Int) < a.length:=by omega
  simp -implicitDefEqProofs (maxSteps:=1000000) (disch:=omega) only [push_cast,simprocAttr,h0,h1,h5,hil',↓gd]
  exact fin0 rfl
theorem eqFlow_self (s q:Int) (S:List Blk):VCall Tryz.prog 47 [.agg [.int .i64 s,.int .i64 q],.agg [.int .i64 s,.int .i64 q]] S fun r S'=>r=.bool true∧S'=S:=by
 refine VCall.en hD Tryz.func47 Tryz.ntmps47 Tryz.results47 ?_
 simp -implicitDefEqProofs (maxSteps:=1000000) (disch:=omega) only [push_cast,simprocAttr,decide_true,Bool.and_self,↓gd]
 exact fin1 (.bool _) rfl
theorem eqStream_self (s:St) (hb:StB s) (S:List Blk):VCall Tryz.prog 96 [stV s,stV s] S fun r S'=>r=.bool true∧S'=S:=by
 have h1:=hb.head.1
 have h2:=hb.got.1
 refine VCall.en hD Tryz.func96 Tryz.ntmps96 Tryz.results96 ?_
 simp -implicitDefEqProofs (maxSteps:=1000000) (disch:=omega) only [push_cast,simprocAttr,decide_true,Bool.and_self,↓gd]
 refine ((eqFieldS_self s.head (fun _ _=>trivial) h1 _).as rfl).to ?_
 simp -implicitDefEqProofs (maxSteps:=1000000) (disch:=omega) only [push_cast,simprocAttr,↓gd]
 refine ((eqFieldS_self s.got (fun _ _=>trivial) h2 _).as rfl).to ?_
 simp -implicitDefEqProofs (maxSteps:=1000000) (disch:=omega) only [push_cast,simprocAttr,↓gd]
 refine ((eqFlow_self s.send s.room _).as rfl).to ?_
 simp -implicitDefEqProofs (maxSteps:=1000000) (disch:=omega) only [push_cast,simprocAttr,↓gd]
 exact fin1 (.bool _) rfl
theorem eqStreamS_self (a:List St) (hz:∀f ∈ a,StB f) (ha:a.length≤2000000) (S:List Blk):VCall Tryz.prog 46 [.rows none (a.map stV),.rows none (a.map stV)] S fun r S'=>r=.bool true∧S'=S:=by
 refine VCall.ex hD (fun _=>false) (fun id=>if id=6 then [8,8,8,8,8,8,8,8,10,10] else []) Tryz.func46 Tryz.ntmps46 Tryz.results46 ?_
 simp -implicitDefEqProofs (maxSteps:=1000000) (disch:=omega) only [push_cast,simprocAttr,↓gd]
 refine wpV_loop (fun m t S'=>∃i:Nat,m=a.length - i∧i≤a.length∧t 0=.rows none (a.map stV)∧t 1=.rows none (a.map stV)∧t 5=.int .i64 i∧S'=S) a.length ⟨0,by omega,by omega,rfl,rfl,rfl,rfl⟩ ?_
 rintro m t S' ⟨i,rfl,hi,h0,h1,h5,rfl⟩
 refine wpV_of hD (fun _=>false) (fun id=>if id=6 then [8,8,8,8,8,8,8,8,10,10] else []) (by kernel_rfl) ?_
 by_cases hil:i < a.length
 ·have hil':(i:Int) < a.length:=by omega
  have hg:=getD_stV hil
  have hzz:=hz _ (mem_getD st0 hil)
  generalize a.getD i st0=f at *
  simp -implicitDefEqProofs (maxSteps:=1000000) (disch:=omega) only [push_cast,simprocAttr,h0,h1,h5,hil',hg,↓gd]
  repeat refine And.intro (by omega) ?_
  refine ((eqStream_self f hzz _).as (by rfl)).to ?_
  simp -implicitDefEqProofs (maxSteps:=1000000) (disch:=omega) only [push_cast,simprocAttr,h0,h1,h5,↓gd]
  exact ⟨a.length - (i+1),by omega,i+1,rfl,by omega,by simp⟩
 ·have:i=a.length:=by omega
  subst this
  have hil':¬((a.length:Nat):Int) < a.length:=by omega
  simp -implicitDefEqProofs (maxSteps:=1000000) (disch:=omega) only [push_cast,simprocAttr,h0,h1,h5,hil',↓gd]
  exact fin0 rfl
theorem eqEnd_self (e:En) (hb:EnB e) (S:List Blk):VCall Tryz.prog 11 [erV e,erV e] S fun r S'=>r=.bool true∧S'=S:=by
 have h1:=hb.out.1
 have h2:=hb.inn.1
 have h3:=hb.len
 have h4:=hb.wait
 refine VCall.en hD Tryz.func11 Tryz.ntmps11 Tryz.results11 ?_
 simp -implicitDefEqProofs (maxSteps:=1000000) (disch:=omega) only [push_cast,simprocAttr,decide_true,Bool.and_self,↓gd]
 refine ((eqTable_self e.out e.outM h1 _).as rfl).to ?_
 simp -implicitDefEqProofs (maxSteps:=1000000) (disch:=omega) only [push_cast,simprocAttr,↓gd]
 refine ((eqTable_self e.inn e.innM h2 _).as rfl).to ?_
 simp -implicitDefEqProofs (maxSteps:=1000000) (disch:=omega) only [push_cast,simprocAttr,↓gd]
 refine ((eqStreamS_self e.strs hb.sts (by omega) _).as rfl).to ?_
 simp -implicitDefEqProofs (maxSteps:=1000000) (disch:=omega) only [push_cast,simprocAttr,↓gd]
 refine ((eqFlow_self e.send e.room _).as rfl).to ?_
 simp -implicitDefEqProofs (maxSteps:=1000000) (disch:=omega) only [push_cast,simprocAttr,↓gd]
 refine ((eqFrameS_self e.wait (fun _ _=>trivial) (by omega) _).as rfl).to ?_
 simp -implicitDefEqProofs (maxSteps:=1000000) (disch:=omega) only [push_cast,simprocAttr,↓gd]
 exact fin1 (.bool _) rfl
end
section
open Go
theorem szField_ok (f:Fd) (hz:ZF f) (left:Int) (h0:0≤left) (h1:left≤1048576) (S:List Blk):VCall Tryz.prog 110 [fV f,.int .i64 left] S fun r S'=>r=.int .i64 (subN left (cF f))∧S'=S:=by
 obtain ⟨z1,z2⟩:=hz
 unfold mxL at *
 refine VCall.en hD Tryz.func110 Tryz.ntmps110 Tryz.results110 ?_
 by_cases g0:left - (f.name.length:Int) < 0
 ·simp -implicitDefEqProofs (maxSteps:=1000000) (disch:=omega) only [push_cast,simprocAttr,g0,↓gd]
  exact fin1 (.int _ _) (by rw [subN_no (by unfold cF; omega)])
 by_cases g1:left - (f.name.length:Int) - (f.val.length:Int) < 0
 ·simp -implicitDefEqProofs (maxSteps:=1000000) (disch:=omega) only [push_cast,simprocAttr,g0,g1,↓gd]
  exact fin1 (.int _ _) (by rw [subN_no (by unfold cF; omega)])
 simp -implicitDefEqProofs (maxSteps:=1000000) (disch:=omega) only [push_cast,simprocAttr,g0,g1,↓gd]
 exact fin1 (.int _ _) (by rw [subN_in (by unfold cF; omega)]; unfold cF; first | (congr 1; done) | (congr 1; omega))
theorem szFieldS_ok (l:List Fd) (hz:ZL ZF l) (left:Int) (h0:0≤left) (h1:left≤1048576) (S:List Blk):VCall Tryz.prog 69 [.rows none (l.map fV),.int .i64 left] S fun r S'=>r=.int .i64 (subN left (cFs l))∧S'=S:=by
 obtain ⟨z1,z2⟩:=hz
 unfold mxL at z1
 refine VCall.en hD Tryz.func69 Tryz.ntmps69 Tryz.results69 ?_
 by_cases g:left - (l.length:Int) < 0
 ·simp -implicitDefEqProofs (maxSteps:=1000000) (disch:=omega) only [push_cast,simprocAttr,g,↓gd]
  exact fin0 (by rw [subN_no (by unfold cFs; omega)])
 simp -implicitDefEqProofs (maxSteps:=1000000) (disch:=omega) only [push_cast,simprocAttr,g,↓gd]
 refine wpV_loop (fun m t S'=>∃(i:Nat) (q:Int),m=l.length - i∧i≤l.length∧t 0=.rows none (l.map fV)∧t 1=.int .i64 q∧t 5=.int .i64 i∧q=left - (l.length:Int) - ((sumL cF (l.take i):Nat):Int)∧0≤q∧S'=S) l.length ⟨0,left - (l.length:Int),by omega,by omega,rfl,rfl,rfl,by simp [sumL],by omega,rfl⟩ ?_
 rintro m t S' ⟨i,q,rfl,hi,h0',h1',h5,hq,hle,rfl⟩
 refine wpV_of0 hD ?_
 by_cases hil:i < l.length
 ·have hil':(i:Int) < l.length:=by omega
  have hg:=getD_fV hil
  have hsn:=sumL_snoc (f:=cF) fd0 hil
  have hpt:=sumL_part (f:=cF) l (i+1)
  have hzf:=z2 _ (mem_getD fd0 hil)
  generalize l.getD i fd0=f at *
  have hcs:cFs l=l.length+sumL cF l:=rfl
  simp -implicitDefEqProofs (maxSteps:=1000000) (disch:=omega) only [push_cast,simprocAttr,h0',h1',h5,hil',hg,↓gd]
  repeat refine And.intro (by omega) ?_
  refine ((szField_ok f hzf q hle (by omega) _).as (by rfl)).to ?_
  by_cases hx:(cF f:Int)≤q
  ·rw [subN_in hx]
   have hn:¬(q - ((cF f:Nat):Int) < 0):=by omega
   simp -implicitDefEqProofs (maxSteps:=1000000) (disch:=omega) only [push_cast,simprocAttr,h0',h5,hn,↓gd]
   exact ⟨l.length - (i+1),by omega,i+1,q - ((cF f:Nat):Int),rfl,by omega,rfl,by simp,by rw [hsn]; omega,by omega⟩
  ·rw [subN_no hx]
   simp -implicitDefEqProofs (maxSteps:=1000000) (disch:=omega) only [push_cast,simprocAttr,↓gd]
   exact fin0 (by rw [subN_no (by omega)])
 ·have:i=l.length:=by omega
  subst this
  have hil':¬((l.length:Nat):Int) < l.length:=by omega
  rw [List.take_length] at hq
  have hcs:cFs l=l.length+sumL cF l:=rfl
  simp -implicitDefEqProofs (maxSteps:=1000000) (disch:=omega) only [push_cast,simprocAttr,h0',h1',h5,hil',↓gd]
  exact fin0 (by rw [subN_in (by omega)]; congr 1; omega)
theorem szTable_ok (l:List Fd) (max:Int) (hz:ZL ZF l) (left:Int) (h0:0≤left) (h1:left≤1048576) (S:List Blk):VCall Tryz.prog 31 [tV l max,.int .i64 left] S fun r S'=>r=.int .i64 (subN left (cFs l))∧S'=S:=by
 refine VCall.en hD Tryz.func31 Tryz.ntmps31 Tryz.results31 ?_
 simp -implicitDefEqProofs (maxSteps:=1000000) (disch:=omega) only [push_cast,simprocAttr,↓gd]
 refine ((szFieldS_ok l hz left h0 h1 _).as (by rfl)).to ?_
 by_cases g:((cFs l:Nat):Int)≤left
 ·have k:¬(left - ((cFs l:Nat):Int) < 0):=by omega
  rw [subN_in g]
  simp -implicitDefEqProofs (maxSteps:=1000000) (disch:=omega) only [push_cast,simprocAttr,k,↓gd]
  exact fin1 (.int _ _) rfl
 ·rw [subN_no g]
  simp -implicitDefEqProofs (maxSteps:=1000000) (disch:=omega) only [push_cast,simprocAttr,↓gd]
  exact fin1 (.int _ _) rfl
theorem szFrame_ok (f:Fr) (hz:ZFr f) (left:Int) (h0:0≤left) (h1:left≤1048576) (S:List Blk):VCall Tryz.prog 71 [frV f,.int .i64 left] S fun r S'=>r=.int .i64 (subN left (cFr f))∧S'=S:=by
 have z1:f.body.length≤mxL:=hz
 unfold mxL at z1
 refine VCall.en hD Tryz.func71 Tryz.ntmps71 Tryz.results71 ?_
 by_cases g0:left - (f.body.length:Int) < 0
 ·simp -implicitDefEqProofs (maxSteps:=1000000) (disch:=omega) only [push_cast,simprocAttr,g0,↓gd]
  exact fin1 (.int _ _) (by rw [subN_no (by unfold cFr; omega)])
 simp -implicitDefEqProofs (maxSteps:=1000000) (disch:=omega) only [push_cast,simprocAttr,g0,↓gd]
 exact fin1 (.int _ _) (by rw [subN_in (by unfold cFr; omega)]; unfold cFr; first | (congr 1; done) | (congr 1; omega))
theorem szFrameS_ok (l:List Fr) (hz:ZL ZFr l) (left:Int) (h0:0≤left) (h1:left≤1048576) (S:List Blk):VCall Tryz.prog 33 [.rows none (l.map frV),.int .i64 left] S fun r S'=>r=.int .i64 (subN left (cFrs l))∧S'=S:=by
 obtain ⟨z1,z2⟩:=hz
 unfold mxL at z1
 refine VCall.en hD Tryz.func33 Tryz.ntmps33 Tryz.results33 ?_
 by_cases g:left - (l.length:Int) < 0
 ·simp -implicitDefEqProofs (maxSteps:=1000000) (disch:=omega) only [push_cast,simprocAttr,g,↓gd]
  exact fin0 (by rw [subN_no (by unfold cFrs; omega)])
 simp -implicitDefEqProofs (maxSteps:=1000000) (disch:=omega) only [push_cast,simprocAttr,g,↓gd]
 refine wpV_loop (fun m t S'=>∃(i:Nat) (q:Int),m=l.length - i∧i≤l.length∧t 0=.rows none (l.map frV)∧t 1=.int .i64 q∧t 5=.int .i64 i∧q=left - (l.length:Int) - ((sumL cFr (l.take i):Nat):Int)∧0≤q∧S'=S) l.length ⟨0,left - (l.length:Int),by omega,by omega,rfl,rfl,rfl,by simp [sumL],by omega,rfl⟩ ?_
 rintro m t S' ⟨i,q,rfl,hi,h0',h1',h5,hq,hle,rfl⟩
 refine wpV_of0 hD ?_
 by_cases hil:i < l.length
 ·have hil':(i:Int) < l.length:=by omega
  have hg:=getD_frV hil
  have hsn:=sumL_snoc (f:=cFr) fr0 hil
  have hpt:=sumL_part (f:=cFr) l (i+1)
  have hzf:=z2 _ (mem_getD fr0 hil)
  generalize l.getD i fr0=f at *
  have hcs:cFrs l=l.length+sumL cFr l:=rfl
  simp -implicitDefEqProofs (maxSteps:=1000000) (disch:=omega) only [push_cast,simprocAttr,h0',h1',h5,hil',hg,↓gd]
  repeat refine And.intro (by omega) ?_
  refine ((szFrame_ok f hzf q hle (by omega) _).as (by rfl)).to ?_
  by_cases hx:(cFr f:Int)≤q
  ·rw [subN_in hx]
   have hn:¬(q - ((cFr f:Nat):Int) < 0):=by omega
   simp -implicitDefEqProofs (maxSteps:=1000000) (disch:=omega) only [push_cast,simprocAttr,h0',h5,hn,↓gd]
   exact ⟨l.length - (i+1),by omega,i+1,q - ((cFr f:Nat):Int),rfl,by omega,rfl,by simp,by rw [hsn]; omega,by omega⟩
  ·rw [subN_no hx]
   simp -implicitDefEqProofs (maxSteps:=1000000) (disch:=omega) only [push_cast,simprocAttr,↓gd]
   exact fin0 (by rw [subN_no (by omega)])
 ·have:i=l.length:=by omega
  subst this
  have hil':¬((l.length:Nat):Int) < l.length:=by omega
  rw [List.take_length] at hq
  have hcs:cFrs l=l.length+sumL cFr l:=rfl
  simp -implicitDefEqProofs (maxSteps:=1000000) (disch:=omega) only [push_cast,simprocAttr,h0',h1',h5,hil',↓gd]
  exact fin0 (by rw [subN_in (by omega)]; congr 1; omega)
theorem szStream_ok (f:St) (hz:ZS f) (left:Int) (h0:0≤left) (h1:left≤1048576) (S:List Blk):VCall Tryz.prog 70 [stV f,.int .i64 left] S fun r S'=>r=.int .i64 (subN left (cS f))∧S'=S:=by
 obtain ⟨z1,z2,z3,z4⟩:=hz
 unfold mxL at *
 refine VCall.en hD Tryz.func70 Tryz.ntmps70 Tryz.results70 ?_
 simp -implicitDefEqProofs (maxSteps:=1000000) (disch:=omega) only [push_cast,simprocAttr,↓gd]
 refine ((szFieldS_ok f.head z1 (left) (by omega) (by omega) _).as (by rfl)).to ?_
 by_cases g0:((cFs f.head:Nat):Int)≤left
 rotate_left
 ·rw [subN_no g0]
  simp -implicitDefEqProofs (maxSteps:=1000000) (disch:=omega) only [push_cast,simprocAttr,↓gd]
  exact fin1 (.int _ _) (by rw [subN_no (by unfold cS; omega)])
 rw [subN_in g0]
 have k0:¬(left - ((cFs f.head:Nat):Int) < 0):=by omega
 by_cases g1:left - ((cFs f.head:Nat):Int) - (f.say.length:Int) < 0
 ·simp -implicitDefEqProofs (maxSteps:=1000000) (disch:=omega) only [push_cast,simprocAttr,k0,g1,↓gd]
  exact fin1 (.int _ _) (by rw [subN_no (by unfold cS; omega)])
 simp -implicitDefEqProofs (maxSteps:=1000000) (disch:=omega) only [push_cast,simprocAttr,k0,g1,↓gd]
 refine ((szFieldS_ok f.got z3 (left - ((cFs f.head:Nat):Int) - (f.say.length:Int)) (by omega) (by omega) _).as (by rfl)).to ?_
 by_cases g2:((cFs f.got:Nat):Int)≤left - ((cFs f.head:Nat):Int) - (f.say.length:Int)
 rotate_left
 ·rw [subN_no g2]
  simp -implicitDefEqProofs (maxSteps:=1000000) (disch:=omega) only [push_cast,simprocAttr,↓gd]
  exact fin1 (.int _ _) (by rw [subN_no (by unfold cS; omega)])
 rw [subN_in g2]
 have k2:¬(left - ((cFs f.head:Nat):Int) - (f.say.length:Int) - ((cFs f.got:Nat):Int) < 0):=by omega
 by_cases g3:left - ((cFs f.head:Nat):Int) - (f.say.length:Int) - ((cFs f.got:Nat):Int) - (f.text.length:Int) < 0
 ·simp -implicitDefEqProofs (maxSteps:=1000000) (disch:=omega) only [push_cast,simprocAttr,k2,g3,↓gd]
  exact fin1 (.int _ _) (by rw [subN_no (by unfold cS; omega)])
 simp -implicitDefEqProofs (maxSteps:=1000000) (disch:=omega) only [push_cast,simprocAttr,k2,g3,↓gd]
 exact fin1 (.int _ _) (by rw [subN_in (by unfold cS; omega)]; unfold cS; first | (congr 1; done) | (congr 1; omega))
theorem szStreamS_ok (l:List St) (hz:ZL ZS l) (left:Int) (h0:0≤left) (h1:left≤1048576) (S:List Blk):VCall Tryz.prog 32 [.rows none (l.map stV),.int .i64 left] S fun r S'=>r=.int .i64 (subN left (cSs l))∧S'=S:=by
 obtain ⟨z1,z2⟩:=hz
 unfold mxL at z1
 refine VCall.en hD Tryz.func32 Tryz.ntmps32 Tryz.results32 ?_
 by_cases g:left - (l.length:Int) < 0
 ·simp -implicitDefEqProofs (maxSteps:=1000000) (disch:=omega) only [push_cast,simprocAttr,g,↓gd]
  exact fin0 (by rw [subN_no (by unfold cSs; omega)])
 simp -implicitDefEqProofs (maxSteps:=1000000) (disch:=omega) only [push_cast,simprocAttr,g,↓gd]
 refine wpV_loop (fun m t S'=>∃(i:Nat) (q:Int),m=l.length - i∧i≤l.length∧t 0=.rows none (l.map stV)∧t 1=.int .i64 q∧t 5=.int .i64 i∧q=left - (l.length:Int) - ((sumL cS (l.take i):Nat):Int)∧0≤q∧S'=S) l.length ⟨0,left - (l.length:Int),by omega,by omega,rfl,rfl,rfl,by simp [sumL],by omega,rfl⟩ ?_
 rintro m t S' ⟨i,q,rfl,hi,h0',h1',h5,hq,hle,rfl⟩
 refine wpV_of0 hD ?_
 by_cases hil:i < l.length
 ·have hil':(i:Int) < l.length:=by omega
  have hg:=getD_stV hil
  have hsn:=sumL_snoc (f:=cS) st0 hil
  have hpt:=sumL_part (f:=cS) l (i+1)
  have hzf:=z2 _ (mem_getD st0 hil)
  generalize l.getD i st0=f at *
  have hcs:cSs l=l.length+sumL cS l:=rfl
  simp -implicitDefEqProofs (maxSteps:=1000000) (disch:=omega) only [push_cast,simprocAttr,h0',h1',h5,hil',hg,↓gd]
  repeat refine And.intro (by omega) ?_
  refine ((szStream_ok f hzf q hle (by omega) _).as (by rfl)).to ?_
  by_cases hx:(cS f:Int)≤q
  ·rw [subN_in hx]
   have hn:¬(q - ((cS f:Nat):Int) < 0):=by omega
   simp -implicitDefEqProofs (maxSteps:=1000000) (disch:=omega) only [push_cast,simprocAttr,h0',h5,hn,↓gd]
   exact ⟨l.length - (i+1),by omega,i+1,q - ((cS f:Nat):Int),rfl,by omega,rfl,by simp,by rw [hsn]; omega,by omega⟩
  ·rw [subN_no hx]
   simp -implicitDefEqProofs (maxSteps:=1000000) (disch:=omega) only [push_cast,simprocAttr,↓gd]
   exact fin0 (by rw [subN_no (by omega)])
 ·have:i=l.length:=by omega
  subst this
  have hil':¬((l.length:Nat):Int) < l.length:=by omega
  rw [List.take_length] at hq
  have hcs:cSs l=l.length+sumL cS l:=rfl
  simp -implicitDefEqProofs (maxSteps:=1000000) (disch:=omega) only [push_cast,simprocAttr,h0',h1',h5,hil',↓gd]
  exact fin0 (by rw [subN_in (by omega)]; congr 1; omega)
theorem szEnd_ok (f:En) (hz:ZE f) (left:Int) (h0:0≤left) (h1:left≤1048576) (S:List Blk):VCall Tryz.prog 7 [erV f,.int .i64 left] S fun r S'=>r=.int .i64 (subN left (cE f))∧S'=S:=by
 obtain ⟨z1,z2,z3,z4,z5⟩:=hz
 unfold mxL at *
 refine VCall.en hD Tryz.func7 Tryz.ntmps7 Tryz.results7 ?_
 simp -implicitDefEqProofs (maxSteps:=1000000) (disch:=omega) only [push_cast,simprocAttr,↓gd]
 refine ((szTable_ok f.out f.outM z1 (left) (by omega) (by omega) _).as (by rfl)).to ?_
 by_cases g0:((cFs f.out:Nat):Int)≤left
 rotate_left
 ·rw [subN_no g0]
  simp -implicitDefEqProofs (maxSteps:=1000000) (disch:=omega) only [push_cast,simprocAttr,↓gd]
  exact fin1 (.int _ _) (by rw [subN_no (by unfold cE; omega)])
 rw [subN_in g0]
 have k0:¬(left - ((cFs f.out:Nat):Int) < 0):=by omega
 simp -implicitDefEqProofs (maxSteps:=1000000) (disch:=omega) only [push_cast,simprocAttr,k0,↓gd]
 refine ((szTable_ok f.inn f.innM z2 (left - ((cFs f.out:Nat):Int)) (by omega) (by omega) _).as (by rfl)).to ?_
 by_cases g1:((cFs f.inn:Nat):Int)≤left - ((cFs f.out:Nat):Int)
 rotate_left
 ·rw [subN_no g1]
  simp -implicitDefEqProofs (maxSteps:=1000000) (disch:=omega) only [push_cast,simprocAttr,↓gd]
  exact fin1 (.int _ _) (by rw [subN_no (by unfold cE; omega)])
 rw [subN_in g1]
 have k1:¬(left - ((cFs f.out:Nat):Int) - ((cFs f.inn:Nat):Int) < 0):=by omega
 by_cases g2:left - ((cFs f.out:Nat):Int) - ((cFs f.inn:Nat):Int) - (f.came.length:Int) < 0
 ·simp -implicitDefEqProofs (maxSteps:=1000000) (disch:=omega) only [push_cast,simprocAttr,k1,g2,↓gd]
  exact fin1 (.int _ _) (by rw [subN_no (by unfold cE; omega)])
 simp -implicitDefEqProofs (maxSteps:=1000000) (disch:=omega) only [push_cast,simprocAttr,k1,g2,↓gd]
 refine ((szStreamS_ok f.strs z4 (left - ((cFs f.out:Nat):Int) - ((cFs f.inn:Nat):Int) - (f.came.length:Int)) (by omega) (by omega) _).as (by rfl)).to ?_
 by_cases g3:((cSs f.strs:Nat):Int)≤left - ((cFs f.out:Nat):Int) - ((cFs f.inn:Nat):Int) - (f.came.length:Int)
 rotate_left
 ·rw [subN_no g3]
  simp -implicitDefEqProofs (maxSteps:=1000000) (disch:=omega) only [push_cast,simprocAttr,↓gd]
  exact fin1 (.int _ _) (by rw [subN_no (by unfold cE; omega)])
 rw [subN_in g3]
 have k3:¬(left - ((cFs f.out:Nat):Int) - ((cFs f.inn:Nat):Int) - (f.came.length:Int) - ((cSs f.strs:Nat):Int) < 0):=by omega
 simp -implicitDefEqProofs (maxSteps:=1000000) (disch:=omega) only [push_cast,simprocAttr,k3,↓gd]
 refine ((szFrameS_ok f.wait z5 (left - ((cFs f.out:Nat):Int) - ((cFs f.inn:Nat):Int) - (f.came.length:Int) - ((cSs f.strs:Nat):Int)) (by omega) (by omega) _).as (by rfl)).to ?_
 by_cases g4:((cFrs f.wait:Nat):Int)≤left - ((cFs f.out:Nat):Int) - ((cFs f.inn:Nat):Int) - (f.came.length:Int) - ((cSs f.strs:Nat):Int)
 rotate_left
 ·rw [subN_no g4]
  simp -implicitDefEqProofs (maxSteps:=1000000) (disch:=omega) only [push_cast,simprocAttr,↓gd]
  exact fin1 (.int _ _) (by rw [subN_no (by unfold cE; omega)])
 rw [subN_in g4]
 have k4:¬(left - ((cFs f.out:Nat):Int) - ((cFs f.inn:Nat):Int) - (f.came.length:Int) - ((cSs f.strs:Nat):Int) - ((cFrs f.wait:Nat):Int) < 0):=by omega
 simp -implicitDefEqProofs (maxSteps:=1000000) (disch:=omega) only [push_cast,simprocAttr,k4,↓gd]
 exact fin1 (.int _ _) (by rw [subN_in (by unfold cE; omega)]; unfold cE; first | (congr 1; done) | (congr 1; omega))
end
end Go.Proofs.YtldogccmhncnoaaGreatDoor
